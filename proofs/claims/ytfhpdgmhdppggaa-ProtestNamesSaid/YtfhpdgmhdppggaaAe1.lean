/- An own symbolic executor for the model's code: abstract values, abstract memory, what they stand for. No condition. -/
import Derived.WalkKit
namespace AE
open Go

/-- Where an abstract block lies. sv: of a row that is owned, the slice that owns it. -/
structure Place where
  blk : Nat
  off : Nat
  esz : Nat
  sa : Option Addr
  sn : Nat
  sc : Nat

abbrev Place.sv (p : Place) : Value := .slice p.sa p.sn p.sc

abbrev Plc := Nat → Nat → Option Place

inductive AV where
  | junk
  | tt
  | ff
  | v (x : Value)
  | ptr (id k i fo : Nat)
  | sl (id k off len : Nat)
  | gs (id k : Nat)
  | map (id k : Nat)
  | fn (f : Fn) (first cap : List AV)
  | ifc (t : TypeId) (x : AV)
  | agg (xs : List AV)
  | tup (xs : List AV)
  | alt (c : Bool) (a b : AV)
  deriving Inhabited

abbrev AV.i (n : Int) : AV := .v (.int .i64 n)
abbrev AV.b (n : Bool) : AV := .v (.bool n)
abbrev AV.p (id fo : Nat) : AV := .ptr id 0 0 fo

mutual
def Rep (π : Plc) : AV → Value → Prop
  | .junk, _ => True
  | .tt, y => y = .bool true
  | .ff, y => y = .bool false
  | .v x, y => y = x
  | .ptr id k i fo, y => ∃ p, π id k = some p ∧ y = .pointer (some ⟨p.blk, p.off + i * p.esz + fo, none⟩)
  | .sl id k off len, y => ∃ a c, y = .slice a len c ∧ len ≤ c ∧ (0 < len → ∃ p, π id k = some p ∧ a = some ⟨p.blk, p.off + off * p.esz, none⟩)
  | .gs id k, y => ∃ p, π id k = some p ∧ y = p.sv
  | .map id k, y => ∃ p, π id k = some p ∧ y = .map (some p.blk)
  | .fn f xs ys, y => ∃ a b, y = .func f a b ∧ RepL π xs a.toList ∧ RepL π ys b.toList
  | .ifc t x, y => ∃ z, y = .iface t z ∧ Rep π x z
  | .agg xs, y => ∃ a, y = .agg a ∧ RepL π xs a.toList
  | .tup xs, y => ∃ a, y = .tuple a ∧ RepL π xs a.toList
  | .alt c a b, y => (c = true → Rep π a y) ∧ (c = false → Rep π b y)
def RepL (π : Plc) : List AV → List Value → Prop
  | [], ys => ys = []
  | x :: xs, ys => ∃ z zs, ys = z :: zs ∧ Rep π x z ∧ RepL π xs zs
end

/-- One placement is part of another one. -/
def Sub (π π' : Plc) : Prop := ∀ id k p, π id k = some p → π' id k = some p
theorem Sub.refl (π : Plc) : Sub π π := fun _ _ _ h => h
theorem Sub.trans {a b c : Plc} (h : Sub a b) (k : Sub b c) : Sub a c := fun _ _ _ e => k _ _ _ (h _ _ _ e)

mutual
theorem Rep.mono {π π' : Plc} (h : Sub π π') : ∀ (a : AV) (y : Value), Rep π a y → Rep π' a y
  | .junk, _, _ => by simp [Rep]
  | .tt, y, e => by simpa [Rep] using e
  | .ff, y, e => by simpa [Rep] using e
  | .v x, y, e => by simpa [Rep] using e
  | .ptr id k i fo, y, e => by
    simp only [Rep] at e ⊢; obtain ⟨p, hp, e⟩ := e; exact ⟨p, h _ _ _ hp, e⟩
  | .sl id k off len, y, e => by
    simp only [Rep] at e ⊢; obtain ⟨a, c, e, hlc, hh⟩ := e
    exact ⟨a, c, e, hlc, fun hl => let ⟨p, hp, ha⟩ := hh hl; ⟨p, h _ _ _ hp, ha⟩⟩
  | .gs id k, y, e => by
    simp only [Rep] at e ⊢; obtain ⟨p, hp, e⟩ := e; exact ⟨p, h _ _ _ hp, e⟩
  | .map id k, y, e => by
    simp only [Rep] at e ⊢; obtain ⟨p, hp, e⟩ := e; exact ⟨p, h _ _ _ hp, e⟩
  | .fn f xs ys, y, e => by
    simp only [Rep] at e ⊢; obtain ⟨a, b, e, h1, h2⟩ := e
    exact ⟨a, b, e, RepL.mono h xs _ h1, RepL.mono h ys _ h2⟩
  | .ifc t x, y, e => by
    simp only [Rep] at e ⊢; obtain ⟨z, e, h1⟩ := e; exact ⟨z, e, Rep.mono h x z h1⟩
  | .agg xs, y, e => by
    simp only [Rep] at e ⊢; obtain ⟨a, e, h1⟩ := e; exact ⟨a, e, RepL.mono h xs _ h1⟩
  | .tup xs, y, e => by
    simp only [Rep] at e ⊢; obtain ⟨a, e, h1⟩ := e; exact ⟨a, e, RepL.mono h xs _ h1⟩
  | .alt c a b, y, e => by
    simp only [Rep] at e ⊢; exact ⟨fun hc => Rep.mono h a y (e.1 hc), fun hc => Rep.mono h b y (e.2 hc)⟩
theorem RepL.mono {π π' : Plc} (h : Sub π π') : ∀ (xs : List AV) (ys : List Value), RepL π xs ys → RepL π' xs ys
  | [], ys, e => by simpa [RepL] using e
  | x :: xs, ys, e => by
    simp only [RepL] at e ⊢; obtain ⟨z, zs, e, h1, h2⟩ := e
    exact ⟨z, zs, e, Rep.mono h x z h1, RepL.mono h xs zs h2⟩
end

theorem RepL.length {π : Plc} : ∀ {xs : List AV} {ys : List Value}, RepL π xs ys → ys.length = xs.length
  | [], ys, e => by simp only [RepL] at e; subst e; rfl
  | x :: xs, ys, e => by
    simp only [RepL] at e; obtain ⟨z, zs, rfl, _, h⟩ := e; simp [RepL.length h]

theorem RepL.nil (π : Plc) : RepL π [] [] := by simp [RepL]
theorem RepL.cons {π : Plc} {x : AV} {xs : List AV} {z : Value} {zs : List Value} (h : Rep π x z) (k : RepL π xs zs) : RepL π (x :: xs) (z :: zs) := by
  simp only [RepL]; exact ⟨z, zs, rfl, h, k⟩
theorem RepL.append {π : Plc} : ∀ {xs xs' : List AV} {ys ys' : List Value}, RepL π xs ys → RepL π xs' ys' → RepL π (xs ++ xs') (ys ++ ys')
  | [], xs', ys, ys', h, k => by simp only [RepL] at h; subst h; simpa using k
  | x :: xs, xs', ys, ys', h, k => by
    simp only [RepL] at h; obtain ⟨z, zs, rfl, h1, h2⟩ := h
    simpa using RepL.cons h1 (RepL.append h2 k)
theorem RepL.get {π : Plc} : ∀ {xs : List AV} {ys : List Value}, RepL π xs ys → ∀ {j : Nat} {x : AV}, xs[j]? = some x → ∃ y, ys[j]? = some y ∧ Rep π x y
  | [], ys, h, j, x, e => by simp at e
  | x' :: xs, ys, h, j, x, e => by
    simp only [RepL] at h; obtain ⟨z, zs, rfl, h1, h2⟩ := h
    cases j with
    | zero => simp at e; subst e; exact ⟨z, by simp, h1⟩
    | succ j => simp at e; obtain ⟨y, hy, hr⟩ := RepL.get h2 e; exact ⟨y, by simpa using hy, hr⟩
theorem RepL.of_get {π : Plc} : ∀ {xs : List AV} {ys : List Value}, ys.length = xs.length → (∀ (j : Nat) (x : AV), xs[j]? = some x → ∃ y, ys[j]? = some y ∧ Rep π x y) → RepL π xs ys
  | [], ys, hl, _ => by simp only [RepL]; exact List.eq_nil_of_length_eq_zero (by simpa using hl)
  | x :: xs, [], hl, _ => by simp at hl
  | x :: xs, y :: ys, hl, h => by
    obtain ⟨y', hy, hr⟩ := h 0 x (by simp)
    simp at hy; subst hy
    refine RepL.cons hr (RepL.of_get (by simpa using hl) fun j x' hj => ?_)
    obtain ⟨y2, hy2, hr2⟩ := h (j + 1) x' (by simpa using hj)
    exact ⟨y2, by simpa using hy2, hr2⟩
theorem RepL.drop {π : Plc} (n : Nat) {xs : List AV} {ys : List Value} (h : RepL π xs ys) : RepL π (xs.drop n) (ys.drop n) := by
  refine RepL.of_get (by simp [h.length]) fun j x hx => ?_
  rw [List.getElem?_drop] at hx ⊢
  exact h.get hx
theorem RepL.take {π : Plc} (n : Nat) {xs : List AV} {ys : List Value} (h : RepL π xs ys) : RepL π (xs.take n) (ys.take n) := by
  refine RepL.of_get (by simp [h.length]) fun j x hx => ?_
  rw [List.getElem?_take] at hx ⊢
  split at hx
  · rename_i hj; simp only [hj, if_true]; exact h.get hx
  · cases hx

/-- A list with a part put in at a place. -/
def splice {α : Type} (l : List α) (o : Nat) (xs : List α) : List α := l.take o ++ xs ++ l.drop (o + xs.length)
theorem RepL.splice {π : Plc} {xs zs : List AV} {ys us : List Value} (h : RepL π xs ys) (o : Nat) (k : RepL π zs us) : RepL π (AE.splice xs o zs) (AE.splice ys o us) := by
  unfold AE.splice; rw [k.length]; exact ((h.take o).append k).append (h.drop _)

/-- A value's cells. -/
def AV.cells : AV → List AV
  | .agg xs => xs
  | .v (.agg cs) => cs.toList.map .v
  | x => [x]

/-- Is it a value of one cell? -/
def AV.one : AV → Bool
  | .v x => x.oneCell'
  | .junk | .agg _ | .tup _ => false
  | .alt _ a b => a.one && b.one
  | _ => true

/-- Is it a value whose cells are seen? -/
def AV.plain : AV → Bool
  | .junk => false
  | .alt _ a b => a.one && b.one
  | _ => true

theorem cells_of_one {y : Value} (h : y.oneCell' = true) : y.cells = #[y] := by cases y <;> simp_all [Value.oneCell', Value.cells]

theorem Rep.one {π : Plc} : ∀ {x : AV} {y : Value}, Rep π x y → x.one = true → y.oneCell' = true
  | .junk, _, _, h => by simp [AV.one] at h
  | .agg _, _, _, h => by simp [AV.one] at h
  | .tup _, _, _, h => by simp [AV.one] at h
  | .tt, y, h, _ => by simp only [Rep] at h; subst h; rfl
  | .ff, y, h, _ => by simp only [Rep] at h; subst h; rfl
  | .v x, y, h, h1 => by simp only [Rep] at h; subst h; exact h1
  | .ptr id k i fo, y, h, _ => by simp only [Rep] at h; obtain ⟨p, _, rfl⟩ := h; rfl
  | .sl id k o n, y, h, _ => by simp only [Rep] at h; obtain ⟨a, c, rfl, _⟩ := h; rfl
  | .gs id k, y, h, _ => by simp only [Rep] at h; obtain ⟨p, _, rfl⟩ := h; rfl
  | .map id k, y, h, _ => by simp only [Rep] at h; obtain ⟨p, _, rfl⟩ := h; rfl
  | .fn f a b, y, h, _ => by simp only [Rep] at h; obtain ⟨a, c, rfl, _⟩ := h; rfl
  | .ifc t x, y, h, _ => by simp only [Rep] at h; obtain ⟨a, rfl, _⟩ := h; rfl
  | .alt c a b, y, h, h1 => by
    simp only [AV.one, Bool.and_eq_true] at h1
    simp only [Rep] at h
    cases c with
    | true => exact Rep.one (h.1 rfl) h1.1
    | false => exact Rep.one (h.2 rfl) h1.2

theorem RepL.vs {π : Plc} : ∀ (l : List Value), RepL π (l.map .v) l
  | [] => RepL.nil π
  | x :: l => RepL.cons (by simp [Rep]) (RepL.vs l)

theorem Rep.cells {π : Plc} {x : AV} {y : Value} (h : Rep π x y) (hp : x.plain = true) : RepL π x.cells y.cells.toList := by
  cases x with
  | junk => cases hp
  | alt c a b => simp only [AV.cells]; rw [cells_of_one (h.one hp)]; exact RepL.cons h (RepL.nil π)
  | tt => simp only [Rep] at h; subst h; simp only [AV.cells, Value.cells]; exact RepL.cons (by simp [Rep]) (RepL.nil π)
  | ff => simp only [Rep] at h; subst h; simp only [AV.cells, Value.cells]; exact RepL.cons (by simp [Rep]) (RepL.nil π)
  | agg xs => simp only [Rep] at h; obtain ⟨a, rfl, h⟩ := h; simpa [AV.cells, Value.cells] using h
  | v x =>
    simp only [Rep] at h; subst h
    cases y with
    | agg cs => simpa [AV.cells, Value.cells] using RepL.vs cs.toList
    | _ => simp only [AV.cells, Value.cells]; exact RepL.cons (by simp [Rep]) (RepL.nil π)
  | ptr id k i fo => obtain ⟨p, hp, rfl⟩ := (by simpa only [Rep] using h); simp only [AV.cells, Value.cells]; exact RepL.cons (by simp only [Rep]; exact ⟨p, hp, rfl⟩) (RepL.nil π)
  | sl id k off len =>
    have h' := h
    simp only [Rep] at h; obtain ⟨a, c, rfl, _⟩ := h
    simp only [AV.cells, Value.cells]; exact RepL.cons h' (RepL.nil π)
  | gs id k => obtain ⟨p, hp, rfl⟩ := (by simpa only [Rep] using h); simp only [AV.cells, Value.cells]; exact RepL.cons (by simp only [Rep]; exact ⟨p, hp, rfl⟩) (RepL.nil π)
  | map id k => obtain ⟨p, hp, rfl⟩ := (by simpa only [Rep] using h); simp only [AV.cells, Value.cells]; exact RepL.cons (by simp only [Rep]; exact ⟨p, hp, rfl⟩) (RepL.nil π)
  | fn f a b =>
    have h' := h
    simp only [Rep] at h; obtain ⟨a, c, rfl, _⟩ := h
    simp only [AV.cells, Value.cells]; exact RepL.cons h' (RepL.nil π)
  | ifc t z =>
    have h' := h
    simp only [Rep] at h; obtain ⟨a, rfl, _⟩ := h
    simp only [AV.cells, Value.cells]; exact RepL.cons h' (RepL.nil π)
  | tup xs =>
    have h' := h
    simp only [Rep] at h; obtain ⟨a, rfl, _⟩ := h
    simp only [AV.cells, Value.cells]; exact RepL.cons h' (RepL.nil π)
end AE
