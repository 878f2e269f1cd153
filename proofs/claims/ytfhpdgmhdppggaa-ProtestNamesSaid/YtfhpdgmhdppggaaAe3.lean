/- An own symbolic executor: what an operation does to abstract memory; the plain operations. No condition. -/
import Derived.Test.YtfhpdgmhdppggaaAe2
import Derived.RangeFuncCalls
namespace AE
open Go

variable {U : Uni}

structure ORes (U : Uni) where
  val : AV
  upd : List (Nat × Nat × AB1 U) := []
  kill : List (Nat × Nat) := []
  new : List (AB1 U) := []

inductive OOut (U : Uni) where
  | val (r : ORes U)
  | panic (x : AV)

/-- What holds behind an operation, or a call, that has ended well. -/
structure Post (H : Heap U) (base : Nat) (r : ORes U) (π πn : Plc) (w w' : World) (v : Value) : Prop where
  rep : Rep πn r.val v
  sub : Sub π πn
  only : ∀ id k, (id < base ∨ base + r.new.length ≤ id) → πn id k = π id k
  new : ∀ j b, r.new[j]? = some b → b.own = true ∧ ∃ p, πn (base + j) 0 = some p ∧ BlkOk πn w' p b ∧ (b.phys p → w.heap.size ≤ p.blk ∨ ∃ id k b0 q, (id, k) ∈ r.kill ∧ H.at id k = some b0 ∧ b0.own = true ∧ π id k = some q ∧ b0.phys q ∧ q.blk = p.blk)
  newsep : ∀ i j b b' p p', r.new[i]? = some b → r.new[j]? = some b' → i ≠ j → πn (base + i) 0 = some p → πn (base + j) 0 = some p' → b.phys p → b'.phys p' → p.blk ≠ p'.blk
  upd : ∀ id k b, (id, k, b) ∈ r.upd → ∃ b0 p, H.at id k = some b0 ∧ b0.own = true ∧ b.own = true ∧ π id k = some p ∧ BlkOk πn w' p b ∧ (b.phys p → b0.phys p)
  kill : ∀ id k, (id, k) ∈ r.kill → ∃ b0, H.at id k = some b0 ∧ b0.own = true
  keeps : Keeps (fun n => ∃ id k p b0, ((∃ b, (id, k, b) ∈ r.upd) ∨ (id, k) ∈ r.kill) ∧ H.at id k = some b0 ∧ b0.phys p ∧ π id k = some p ∧ p.blk = n) w w'

/-- Nothing has turned in memory. -/
theorem Post.same {H : Heap U} {base : Nat} {x : AV} {π : Plc} {w : World} {v : Value} (h : Rep π x v) : Post H base ⟨x, [], [], []⟩ π π w w v :=
  ⟨h, Sub.refl π, fun _ _ _ => rfl, fun j b hb => by simp at hb, fun i j b b' p p' h => by simp at h, fun id k b h => by simp at h, fun id k h => by simp at h, Keeps.refl _ w⟩

/-- Draws turn nothing. -/
theorem Post.drew {H : Heap U} {base : Nat} {r : ORes U} {π πn : Plc} {w w' : World} {v : Value} (h : Post H base r π πn w.drew w' v) : Post H base r π πn w w' v :=
  ⟨h.rep, h.sub, h.only, h.new, h.newsep, h.upd, h.kill, (Keeps.drew _ w).trans h.keeps (fun _ _ e => e)⟩

abbrev Fw (rd : Option Nat) : Fence := { Fence.wide with round := rd }

def OpOk (P : Program) (o : Oper) (ρ : Operand → AV) (H : Heap U) (base : Nat) : OOut U → Prop
  | .val r => ∀ (rd : Option Nat) (n : Nat) (π : Plc) (w : World) (a : Act), Conc π H w → (∀ x, Rep π (ρ x) (a.eval x)) → (∀ j k, j < r.new.length → π (base + j) k = none) →
      o.wpIn (Fw rd) n P a w (fun a' w' => ∃ v πn, a' = a.put o.dst v ∧ Post H base r π πn w w' v) (fun _ _ _ => False)
  | .panic x => ∀ (rd : Option Nat) (n : Nat) (π : Plc) (w : World) (a : Act), Conc π H w → (∀ x, Rep π (ρ x) (a.eval x)) →
      o.wpIn (Fw rd) n P a w (fun _ _ => False) (fun e a' w' => ∃ y, e = .panic [{ v := y, recovered := false }] ∧ a' = a ∧ Rep π x y ∧ Keeps (fun _ => False) w w')

theorem wpIn_of_run {P : Program} {o : Oper} {a : Act} {w : World} {rd : Option Nat} {n : Nat} {next : Act → World → Prop} {Q : Exit → Act → World → Prop}
    (hd : ∀ c, o.op ≠ .defer c) {r : Result Next} (hr : (execOp a.eval o).run P w = r) (h : o.uponIn (Fw rd) n P a next Q r) : o.wpIn (Fw rd) n P a w next Q := by
  refine ⟨fun _ _ => trivial, ?_⟩
  rw [Oper.semAt_eq _ _ _ hd, hr]; exact h

/-- An operation that hands back a value and leaves the world alone. -/
theorem OpOk.pure {P : Program} {o : Oper} {ρ : Operand → AV} {H : Heap U} {base : Nat} {x : AV} (hd : ∀ c, o.op ≠ .defer c)
    (h : ∀ (π : Plc) (w : World) (a : Act), Conc π H w → (∀ x, Rep π (ρ x) (a.eval x)) → ∃ v, (execOp a.eval o).run P w = .ok (.value v) w ∧ Rep π x v) :
    OpOk P o ρ H base (.val ⟨x, [], [], []⟩) := by
  intro rd n π w a hc hρ _
  obtain ⟨v, hr, hv⟩ := h π w a hc hρ
  exact wpIn_of_run hd hr ⟨v, π, rfl, Post.same hv⟩

/-- A new place for a new block. -/
def Plc.put (π : Plc) (id : Nat) (p : Place) : Plc := fun id' k => if id' = id ∧ k = 0 then some p else π id' k

theorem Plc.put_same (π : Plc) (id : Nat) (p : Place) : π.put id p id 0 = some p := by simp [Plc.put]
theorem Plc.sub_put {π : Plc} {id : Nat} {p : Place} (h : π id 0 = none) : Sub π (π.put id p) := by
  intro id' k q hq
  unfold Plc.put
  split
  · rename_i e; obtain ⟨rfl, rfl⟩ := e; rw [h] at hq; cases hq
  · exact hq

theorem Post.alloc {H : Heap U} {base : Nat} {π : Plc} {w w1 : World} {vs : List AV} {t : TypeId} {cs : Array Value} {x : AV} {v : Value} {p : Place}
    (hw : w1 = w.alloc (.cells cs t)) (hf : π base 0 = none) (hv : RepL π vs cs.toList) (hp : p.blk = w.heap.size) (hp0 : p.off = 0) (hx : Rep (π.put base p) x v) :
    Post H base ⟨x, [], [], [.cells vs t]⟩ π (π.put base p) w w1 v := by
  subst hw
  have hsub : Sub π (π.put base p) := Plc.sub_put hf
  refine ⟨hx, hsub, fun id k h => ?_, fun j b hb => ?_, fun i j b b' p p' h h' hne => ?_, fun id k b h => by simp at h, fun id k h => by simp at h, Keeps.alloc _ w _⟩
  · have h' : id < base ∨ base + 1 ≤ id := h
    have : ¬ (id = base ∧ k = 0) := by omega
    simp [Plc.put, this]
  · cases j with
    | zero =>
      simp at hb; subst hb
      refine ⟨rfl, p, Plc.put_same _ _ _, ⟨hp0, cs, ?_, hv.mono hsub⟩, fun _ => .inl (by omega)⟩
      rw [hp]; show (w.heap.push _)[w.heap.size]? = _; simp
    | succ j => simp at hb
  · have hi : i < 1 := by rcases Nat.lt_or_ge i 1 with h1 | h1; exact h1; simp [List.getElem?_eq_none (by simpa using h1 : [AB1.cells (U := U) vs t].length ≤ i)] at h
    have hj : j < 1 := by rcases Nat.lt_or_ge j 1 with h1 | h1; exact h1; simp [List.getElem?_eq_none (by simpa using h1 : [AB1.cells (U := U) vs t].length ≤ j)] at h'
    omega

def mkPlace (n : Nat) : Place := { blk := n, off := 0, esz := 0, sa := none, sn := 0, sc := 0 }

/-- An operation that lays a block of cells and hands back its address. -/
theorem OpOk.boxes {P : Program} {o : Oper} {ρ : Operand → AV} {H : Heap U} {base : Nat} {vs : List AV} {t : TypeId} (hd : ∀ c, o.op ≠ .defer c)
    (h : ∀ (π : Plc) (w : World) (a : Act), Conc π H w → (∀ x, Rep π (ρ x) (a.eval x)) → ∃ cs, (execOp a.eval o).run P w = .ok (.value (.pointer (some ⟨w.heap.size, 0, none⟩))) (w.alloc (.cells cs t)) ∧ RepL π vs cs.toList) :
    OpOk P o ρ H base (.val ⟨.ptr base 0 0 0, [], [], [.cells vs t]⟩) := by
  intro rd n π w a hc hρ hf
  obtain ⟨cs, hr, hv⟩ := h π w a hc hρ
  refine wpIn_of_run hd hr ⟨_, π.put base (mkPlace w.heap.size), rfl, Post.alloc rfl (by simpa using hf 0 0 (by simp)) hv rfl rfl ?_⟩
  simp only [Rep]
  exact ⟨_, Plc.put_same _ _ _, by simp [mkPlace]⟩

/-! ### looking into abstract memory -/
def nth {α : Type} : List α → Nat → Option α
  | [], _ => none
  | x :: _, 0 => some x
  | _ :: l, n + 1 => nth l n
theorem nth_eq {α : Type} : ∀ (l : List α) (n : Nat), nth l n = l[n]?
  | [], n => by simp [nth]
  | x :: l, 0 => by simp [nth]
  | x :: l, n + 1 => by simp [nth, nth_eq l n]

def Heap.get (H : Heap U) (id k : Nat) (K : AB1 U → Prop) : Prop :=
  match nth H id with
  | some (.one b) => match k with
    | 0 => K b
    | _ + 1 => False
  | some (.fam n f) => k < n ∧ K (f k)
  | _ => False

theorem Heap.get_at {H : Heap U} {id k : Nat} {K : AB1 U → Prop} (h : H.get id k K) : ∃ b, H.at id k = some b ∧ K b := by
  unfold Heap.get at h
  unfold Heap.at
  rw [nth_eq] at h
  split at h
  · rename_i b hb
    split at h
    · exact ⟨b, by simp [hb], h⟩
    · cases h
  · rename_i n f hb; exact ⟨f k, by simp [hb, h.1], h.2⟩
  · cases h

/-- Some of the cells from a place on. -/
def part (cs : List AV) (fo n : Nat) (K : List AV → Prop) : Prop :=
  let x := (cs.drop fo).take n
  match decEq x.length n with
  | .isTrue _ => K x
  | .isFalse _ => False

theorem part_def {cs : List AV} {fo n : Nat} {K : List AV → Prop} (h : part cs fo n K) : ((cs.drop fo).take n).length = n ∧ K ((cs.drop fo).take n) := by
  unfold part at h
  simp only at h
  split at h
  · rename_i e _; exact ⟨e, h⟩
  · cases h

def Heap.rd (H : Heap U) (id k i fo n : Nat) (K : List AV → Prop) : Prop :=
  H.get id k fun
    | .cells vs _ => match i with
      | 0 => part vs fo n K
      | _ + 1 => False
    | .rc vs _ => match i with
      | 0 => part vs fo n K
      | _ + 1 => False
    | .row c l _ => i < l.length ∧ part (U.enc c (l.getD i (U.df c))) fo n K
    | .ro c l => i < l.length ∧ part (U.enc c (l.getD i (U.df c))) fo n K
    | .map .. => False
    | .mrow .. => False

theorem flatMap_get {α β : Type} (f : α → List β) (sz : Nat) (hf : ∀ x, (f x).length = sz) : ∀ (l : List α) (i : Nat) (x : α), l[i]? = some x → ∀ j, j < sz → (l.flatMap f)[i * sz + j]? = (f x)[j]?
  | [], i, x, h, j, hj => by simp at h
  | y :: l, 0, x, h, j, hj => by
    simp at h; subst h
    rw [List.flatMap_cons, List.getElem?_append_left (by rw [hf]; omega)]; simp
  | y :: l, i + 1, x, h, j, hj => by
    have h' : l[i]? = some x := by simpa using h
    have e : (i + 1) * sz + j - sz = i * sz + j := by rw [Nat.add_mul, Nat.one_mul]; omega
    rw [List.flatMap_cons, List.getElem?_append_right (by rw [hf, Nat.add_mul]; omega), hf, e]
    exact flatMap_get f sz hf l i x h' j hj

theorem flatMap_length {α β : Type} (f : α → List β) (sz : Nat) (hf : ∀ x, (f x).length = sz) : ∀ (l : List α), (l.flatMap f).length = l.length * sz
  | [] => by simp
  | y :: l => by rw [List.flatMap_cons, List.length_append, hf, flatMap_length f sz hf l, List.length_cons, Nat.add_mul]; omega

theorem Addr.add_eq (b o n : Nat) : (⟨b, o, none⟩ : Addr).add n = ⟨b, o + n, none⟩ := by unfold Addr.add; split <;> simp_all

/-- The cells of an element. -/
theorem BlkOk.elem {π : Plc} {w : World} {p : Place} {c : U.C} {l : List (U.ty c)} {t : TypeId} (hb : BlkOk π w p (.row c l t)) (i : Nat) (x : U.ty c) (hi : l[i]? = some x) (j : Nat) (a : AV) (ha : (U.enc c x)[j]? = some a) :
    ∃ y, w.cell? ⟨p.blk, p.off + i * p.esz + j, none⟩ = some y ∧ Rep π a y := by
  obtain ⟨h0, h1, h2, h3, cs, h4, h5⟩ := hb
  have hj : j < U.sz c := by rw [← U.len c x]; exact (List.getElem?_eq_some_iff.1 ha).1
  have hg := flatMap_get (U.enc c) (U.sz c) (U.len c) l i x hi j hj
  rw [ha] at hg
  obtain ⟨y, hy, hr⟩ := RepL.get h4 hg
  refine ⟨y, ?_, hr⟩
  have hil : i < l.length := (List.getElem?_eq_some_iff.1 hi).1
  cases hsa : p.sa with
  | none =>
    rcases h5.2 with ⟨_, hn⟩ | ⟨g, cap, cur, e, _⟩
    · omega
    · simp [Place.sv, hsa] at e
  | some ad =>
    have had := h3 ad hsa
    subst had
    have := h5.cells (g := p.blk) (by simp [Place.sv, hsa, Value.ownBlock]) (i * U.sz c + j) y hy
    rw [Addr.add_eq] at this
    rw [h0, h1, ← this]; simp

theorem Heap.rd_ok {H : Heap U} {id k i fo n : Nat} {K : List AV → Prop} (h : H.rd id k i fo n K) :
    ∃ cs, K cs ∧ cs.length = n ∧ ∀ π w, Conc π H w → ∃ p ys, π id k = some p ∧ RepL π cs ys ∧ ∀ j y, ys[j]? = some y → w.cell? ((⟨p.blk, p.off + i * p.esz + fo, none⟩ : Addr).add j) = some y := by
  obtain ⟨b, hb, h⟩ := Heap.get_at h
  have key : ∀ (es : List AV), part es fo n K → (∀ π w p, BlkOk π w p b → ∀ (j : Nat) (a : AV), es[j]? = some a → ∃ y, w.cell? ⟨p.blk, p.off + i * p.esz + j, none⟩ = some y ∧ Rep π a y) →
      ∃ cs, K cs ∧ cs.length = n ∧ ∀ π w, Conc π H w → ∃ p ys, π id k = some p ∧ RepL π cs ys ∧ ∀ j y, ys[j]? = some y → w.cell? ((⟨p.blk, p.off + i * p.esz + fo, none⟩ : Addr).add j) = some y := by
    intro es hp hes
    obtain ⟨hl, hk⟩ := part_def hp
    refine ⟨_, hk, hl, fun π w hc => ?_⟩
    obtain ⟨p, hp, hok⟩ := hc.ok id k b hb
    have hx : ∀ j, j < n → ∃ y, w.cell? ⟨p.blk, p.off + i * p.esz + fo + j, none⟩ = some y ∧ ∀ a, ((es.drop fo).take n)[j]? = some a → Rep π a y := by
      intro j hj
      have hj' : j < ((es.drop fo).take n).length := by omega
      have hget : ((es.drop fo).take n)[j]? = es[fo + j]? := by rw [List.getElem?_take, if_pos hj, List.getElem?_drop]
      obtain ⟨a, ha⟩ : ∃ a, ((es.drop fo).take n)[j]? = some a := ⟨_, List.getElem?_eq_getElem hj'⟩
      obtain ⟨y, hy, hr⟩ := hes π w p hok (fo + j) a (by rw [← hget]; exact ha)
      refine ⟨y, by rw [← hy]; congr 2; omega, fun a' ha' => ?_⟩
      rw [ha] at ha'; cases ha'; exact hr
    refine ⟨p, (List.range n).map (fun j => (w.cell? ⟨p.blk, p.off + i * p.esz + fo + j, none⟩).getD undef), hp, RepL.of_get (by rw [hl]; simp) fun j a ha => ?_, fun j y hy => ?_⟩
    · have hj : j < n := by have := (List.getElem?_eq_some_iff.1 ha).1; omega
      obtain ⟨y, hy, hr⟩ := hx j hj
      exact ⟨y, by simp [hj, hy], hr a ha⟩
    · rw [Addr.add_eq]
      have hj : j < n := by have := (List.getElem?_eq_some_iff.1 hy).1; simpa using this
      obtain ⟨y', hy', _⟩ := hx j hj
      simp [hj, hy'] at hy
      rw [hy', hy]
  cases b with
  | cells vs t =>
    simp only at h
    split at h
    · refine key vs h ?_
      intro π w p ⟨h0, cs, h1, h2⟩ j a ha
      obtain ⟨y, hy, hr⟩ := h2.get ha
      refine ⟨y, ?_, hr⟩
      unfold World.cell?
      simp [h1, h0, ← hy]
    · cases h
  | rc vs t =>
    simp only at h
    split at h
    · refine key vs h ?_
      intro π w p ⟨h0, cs, h1, h2⟩ j a ha
      obtain ⟨y, hy, hr⟩ := h2.get ha
      refine ⟨y, ?_, hr⟩
      unfold World.cell?
      simp [h1, h0, ← hy]
    · cases h
  | row c l t =>
    refine key _ h.2 fun π w p hok j a ha => hok.elem i (l.getD i (U.df c)) ?_ j a ha
    rw [List.getD_eq_getElem?_getD, List.getElem?_eq_getElem h.1]; simp
  | ro c l =>
    refine key _ h.2 fun π w p hok j a ha => hok.2 i (l.getD i (U.df c)) ?_ j a ha
    rw [List.getD_eq_getElem?_getD, List.getElem?_eq_getElem h.1]; simp
  | map m l => cases h
  | mrow o vs => cases h
end AE
