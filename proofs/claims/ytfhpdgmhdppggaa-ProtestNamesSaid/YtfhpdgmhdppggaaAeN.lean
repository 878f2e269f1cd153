/- An own symbolic executor: slices that are nil, seen as rows without elements. No condition. -/
import Derived.Test.YtfhpdgmhdppggaaAe26
namespace AE
open Go

variable {U : Uni}

mutual
/-- The slices of some blocks are nil. -/
def nlV (gh : List Nat) : AV → AV
  | .gs id k => match memN id gh with
    | true => .v (.slice none 0 0)
    | false => .gs id k
  | .sl id k off len => match memN id gh with
    | true => .sl noId 0 0 0
    | false => .sl id k off len
  | .fn f xs ys => .fn f (nlL gh xs) (nlL gh ys)
  | .ifc t x => .ifc t (nlV gh x)
  | .agg xs => .agg (nlL gh xs)
  | .tup xs => .tup (nlL gh xs)
  | .junk => .junk
  | .tt => .tt
  | .ff => .ff
  | .v x => .v x
  | .ptr id k i fo => .ptr id k i fo
  | .map id k => .map id k
  | .alt c a b => .alt c a b
def nlL (gh : List Nat) : List AV → List AV
  | [] => []
  | x :: xs => nlV gh x :: nlL gh xs
end
mutual
def nlOkV (gh : List Nat) : AV → Prop
  | .gs id k => match memN id gh with
    | true => k = 0
    | false => True
  | .sl id _ _ len => match memN id gh with
    | true => len = 0
    | false => True
  | .ptr id _ _ _ => isB (!memN id gh) True
  | .map id _ => isB (!memN id gh) True
  | .fn _ xs ys => nlOkL gh xs ∧ nlOkL gh ys
  | .ifc _ x => nlOkV gh x
  | .agg xs => nlOkL gh xs
  | .tup xs => nlOkL gh xs
  | .alt _ a b => isB (a.fixed && b.fixed) True
  | .junk => True
  | .tt => True
  | .ff => True
  | .v _ => True
def nlOkL (gh : List Nat) : List AV → Prop
  | [] => True
  | x :: xs => nlOkV gh x ∧ nlOkL gh xs
end

theorem memN_false {n : Nat} {l : List Nat} (h : memN n l = false) : n ∉ l := fun hh => by rw [memN_iff.2 hh] at h; cases h

/-- A placement at which the blocks gh are rows that are nil. -/
structure NilAt (gh : List Nat) (π π2 : Plc) : Prop where
  out : ∀ id k, id ∉ gh → π2 id k = π id k
  at_ : ∀ id, id ∈ gh → ∃ p, π2 id 0 = some p ∧ p.sv = .slice none 0 0

mutual
theorem nl_rep {gh : List Nat} {π π2 : Plc} (h : NilAt gh π π2) : ∀ {a : AV} {y : Value}, nlOkV gh a → Rep π (nlV gh a) y → Rep π2 a y
  | .junk, _, _, _ => by simp [Rep]
  | .tt, y, _, e => by simpa [Rep, nlV] using e
  | .ff, y, _, e => by simpa [Rep, nlV] using e
  | .v x, y, _, e => by simpa [Rep, nlV] using e
  | .gs id k, y, hk, e => by
    simp only [nlOkV] at hk
    simp only [nlV] at e
    split at hk
    · rename_i hm
      rw [hm] at e
      simp only [Rep] at e ⊢
      subst hk
      obtain ⟨p, hp, hs⟩ := h.at_ id (memN_iff.1 hm)
      exact ⟨p, hp, by rw [e, hs]⟩
    · rename_i hm
      rw [hm] at e
      simp only [Rep] at e ⊢
      rw [h.out id k (memN_false hm)]; exact e
  | .sl id k off len, y, hk, e => by
    simp only [nlOkV] at hk
    simp only [nlV] at e
    split at hk
    · rename_i hm
      rw [hm] at e
      simp only [Rep] at e ⊢
      subst hk
      obtain ⟨a, c, e, hl, _⟩ := e
      exact ⟨a, c, e, hl, fun hh => absurd hh (Nat.lt_irrefl _)⟩
    · rename_i hm
      rw [hm] at e
      simp only [Rep] at e ⊢
      rw [h.out id k (memN_false hm)]; exact e
  | .ptr id k i fo, y, hk, e => by
    simp only [nlOkV] at hk
    obtain ⟨hm, _⟩ := isB_ok hk
    simp only [nlV, Rep] at e ⊢
    rw [h.out id k (memN_false (by simpa using hm))]; exact e
  | .map id k, y, hk, e => by
    simp only [nlOkV] at hk
    obtain ⟨hm, _⟩ := isB_ok hk
    simp only [nlV, Rep] at e ⊢
    rw [h.out id k (memN_false (by simpa using hm))]; exact e
  | .fn f xs ys, y, hk, e => by
    simp only [nlOkV] at hk
    simp only [nlV, Rep] at e ⊢; obtain ⟨a, b, e, h1, h2⟩ := e
    exact ⟨a, b, e, nl_repL h hk.1 h1, nl_repL h hk.2 h2⟩
  | .ifc t x, y, hk, e => by
    simp only [nlOkV] at hk
    simp only [nlV, Rep] at e ⊢; obtain ⟨z, e, h1⟩ := e; exact ⟨z, e, nl_rep h hk h1⟩
  | .agg xs, y, hk, e => by
    simp only [nlOkV] at hk
    simp only [nlV, Rep] at e ⊢; obtain ⟨a, e, h1⟩ := e; exact ⟨a, e, nl_repL h hk h1⟩
  | .tup xs, y, hk, e => by
    simp only [nlOkV] at hk
    simp only [nlV, Rep] at e ⊢; obtain ⟨a, e, h1⟩ := e; exact ⟨a, e, nl_repL h hk h1⟩
  | .alt c a b, y, hk, e => by
    simp only [nlOkV] at hk
    obtain ⟨hf, _⟩ := isB_ok hk
    simp only [nlV] at e
    exact Rep.fixed (a := .alt c a b) (by simpa [AV.fixed] using hf) e
theorem nl_repL {gh : List Nat} {π π2 : Plc} (h : NilAt gh π π2) : ∀ {xs : List AV} {ys : List Value}, nlOkL gh xs → RepL π (nlL gh xs) ys → RepL π2 xs ys
  | [], ys, _, e => by simpa [RepL, nlL] using e
  | x :: xs, ys, hk, e => by
    simp only [nlOkL] at hk
    simp only [nlL, RepL] at e ⊢; obtain ⟨z, zs, e, h1, h2⟩ := e
    exact ⟨z, zs, e, nl_rep h hk.1 h1, nl_repL h hk.2 h2⟩
end
theorem nlL_length (gh : List Nat) : ∀ (xs : List AV), (nlL gh xs).length = xs.length
  | [] => rfl
  | x :: xs => by simp [nlL, nlL_length gh xs]
theorem nlL_getD {gh : List Nat} : ∀ {xs : List AV} {k : Nat}, k < xs.length → (nlL gh xs).getD k .junk = nlV gh (xs.getD k .junk)
  | [], _, h => by simp at h
  | x :: xs, 0, _ => by simp [nlL]
  | x :: xs, k + 1, h => by simpa [nlL] using nlL_getD (xs := xs) (k := k) (by simpa using h)
theorem nlOkL_getD {gh : List Nat} : ∀ {xs : List AV}, nlOkL gh xs → ∀ {k : Nat}, k < xs.length → nlOkV gh (xs.getD k .junk)
  | [], _, _, h => by simp at h
  | x :: xs, hk, 0, _ => by simp only [nlOkL] at hk; simpa using hk.1
  | x :: xs, hk, k + 1, h => by simp only [nlOkL] at hk; simpa using nlOkL_getD hk.2 (k := k) (by simpa using h)

def nlB (gh : List Nat) : AB1 U → AB1 U
  | .cells vs t => .cells (nlL gh vs) t
  | .rc vs t => .rc (nlL gh vs) t
  | .mrow o vs => .mrow o (nlL gh vs)
  | .row c l t => .row c l t
  | .ro c l => .ro c l
  | .map m l => .map m l
def nlOkB (gh : List Nat) : AB1 U → Prop
  | .cells vs _ => nlOkL gh vs
  | .rc vs _ => nlOkL gh vs
  | .mrow _ vs => nlOkL gh vs
  | .row c _ _ => isB (U.pl c) True
  | .ro c _ => isB (U.pl c) True
  | .map m _ => isB (U.mpl m) True
def nlA (gh : List Nat) : AB U → AB U
  | .one b => .one (nlB gh b)
  | .none => .none
  | .fam n f => .fam n f
def nlH (gh : List Nat) : Nat → Heap U → Heap U
  | _, [] => []
  | i, b :: l => (match memN i gh with
    | true => .none
    | false => nlA gh b) :: nlH gh (i + 1) l
def nilA : AB U → Prop
  | .one (.row _ l _) => l = []
  | .one (.ro _ l) => l = []
  | _ => False
def nlOkA (gh : List Nat) : AB U → Prop
  | .one b => nlOkB gh b
  | .none => True
  | .fam _ f => ∀ k, fixB (f k) = true
def nlOkH (gh : List Nat) : Nat → Heap U → Prop
  | _, [] => True
  | i, b :: l => (match memN i gh with
    | true => nilA b
    | false => nlOkA gh b) ∧ nlOkH gh (i + 1) l

theorem nlH_length (gh : List Nat) : ∀ (i : Nat) (H : Heap U), (nlH gh i H).length = H.length
  | _, [] => rfl
  | i, b :: l => by simp [nlH, nlH_length gh (i + 1) l]
theorem nlH_get {gh : List Nat} : ∀ {i : Nat} {H : Heap U}, nlOkH gh i H → ∀ {j : Nat} {b : AB U}, H[j]? = some b → ((i + j) ∈ gh → nilA b ∧ (nlH gh i H)[j]? = some .none) ∧ ((i + j) ∉ gh → nlOkA gh b ∧ (nlH gh i H)[j]? = some (nlA gh b))
  | i, [], _, j, b, h => by simp at h
  | i, x :: l, hk, j, b, h => by
    simp only [nlOkH] at hk
    cases j with
    | zero =>
      simp only [List.getElem?_cons_zero, Option.some.injEq] at h
      subst h
      simp only [Nat.add_zero, nlH, List.getElem?_cons_zero, Option.some.injEq]
      have hk := hk.1
      refine ⟨fun hm => ?_, fun hm => ?_⟩
      · rw [memN_iff.2 hm] at hk ⊢; exact ⟨hk, rfl⟩
      · have hf : memN i gh = false := by
          cases e : memN i gh with
          | false => rfl
          | true => exact absurd (memN_iff.1 e) hm
        rw [hf] at hk ⊢; exact ⟨hk, rfl⟩
    | succ j =>
      have := nlH_get (i := i + 1) hk.2 (j := j) (b := b) (by simpa using h)
      rw [show i + 1 + j = i + (j + 1) by omega] at this
      simpa [nlH] using this

def szA : Option (AB U) → Nat
  | some (.one (.row c _ _)) => U.sz c
  | some (.one (.ro c _)) => U.sz c
  | _ => 0
def Plc.nil (π : Plc) (gh : List Nat) (H : Heap U) : Plc := fun id k => if id ∈ gh ∧ k = 0 then some (nilPlace (szA H[id]?)) else if id ∈ gh then none else π id k
theorem Plc.nilAt (π : Plc) (gh : List Nat) (H : Heap U) : NilAt gh π (π.nil gh H) where
  out := fun id k h => by unfold Plc.nil; rw [if_neg (fun hh => h hh.1), if_neg h]
  at_ := fun id h => ⟨_, by unfold Plc.nil; rw [if_pos ⟨h, rfl⟩], rfl⟩

theorem nlB_ok {gh : List Nat} {π π2 : Plc} (h : NilAt gh π π2) {w : World} {p : Place} {b : AB1 U} (hk : nlOkB gh b) (hb : BlkOk π w p (nlB gh b)) : BlkOk π2 w p b := by
  cases b with
  | cells vs t => obtain ⟨h0, cs, h1, h2⟩ := hb; exact ⟨h0, cs, h1, nl_repL h hk h2⟩
  | rc vs t => obtain ⟨h0, cs, h1, h2⟩ := hb; exact ⟨h0, cs, h1, nl_repL h hk h2⟩
  | row c l t => exact fixB_ok (b := .row c l t) (isB_ok hk).1 hb
  | ro c l => exact fixB_ok (b := .ro c l) (isB_ok hk).1 hb
  | map m l => exact fixB_ok (b := .map m l) (isB_ok hk).1 hb
  | mrow o vs =>
    obtain ⟨es, ck, ks, h1, h2, h3, h4, h5, h6⟩ := hb
    rw [nlL_length] at h3 h6
    have hk' : nlOkL gh vs := hk
    refine ⟨es, ck, ks, h1, h2, h3, h4, ?_, fun k hkl hn => ?_⟩
    · refine RepL.of_get (by have := h5.length; simpa using this) fun j x hx => ?_
      rw [List.getElem?_map] at hx
      cases hj : ks[j]? with
      | none => rw [hj] at hx; cases hx
      | some k =>
        rw [hj] at hx; simp only [Option.map_some, Option.some.injEq] at hx; subst hx
        have hkl := h3 k (List.mem_of_getElem? hj)
        obtain ⟨y, hy, hr⟩ := h5.get (j := j) (x := (nlL gh vs).getD k .junk) (by rw [List.getElem?_map, hj]; rfl)
        rw [nlL_getD hkl] at hr
        exact ⟨y, hy, nl_rep h (nlOkL_getD hk' hkl) hr⟩
    · have := h6 k hkl hn
      rw [nlL_getD hkl] at this
      exact nl_rep h (nlOkL_getD hk' hkl) this
theorem nlB_own {gh : List Nat} {b : AB1 U} : (nlB gh b).own = b.own := by cases b <;> rfl
theorem nlB_phys {gh : List Nat} {b : AB1 U} {p : Place} : (nlB gh b).phys p ↔ b.phys p := by cases b <;> exact Iff.rfl
theorem nlA_at {gh : List Nat} {H : Heap U} (hk : nlOkH gh 0 H) {id k : Nat} {b : AB1 U} (hb : H.at id k = some b) (hn : id ∉ gh) : ∃ b', (nlH gh 0 H).at id k = some b' ∧ b'.own = b.own ∧ (∀ p, b'.phys p ↔ b.phys p) ∧ ∀ π π2 w p, NilAt gh π π2 → BlkOk π w p b' → BlkOk π2 w p b := by
  unfold Heap.at at hb
  split at hb
  · rename_i b0 hid
    split at hb
    · rename_i hk0
      cases hb
      have := (nlH_get hk hid).2 (by rw [Nat.zero_add]; exact hn)
      refine ⟨nlB gh b, by unfold Heap.at; rw [this.2]; simp [nlA, hk0], nlB_own, fun p => nlB_phys, fun π π2 w p h hbk => nlB_ok h this.1 hbk⟩
    · cases hb
  · rename_i n f hid
    split at hb
    · rename_i hkn
      cases hb
      have := (nlH_get hk hid).2 (by rw [Nat.zero_add]; exact hn)
      refine ⟨f k, by unfold Heap.at; rw [this.2]; simp [nlA, hkn], rfl, fun p => Iff.rfl, fun π π2 w p h hbk => fixB_ok (this.1 k) hbk⟩
    · cases hb
  · cases hb
theorem nilA_at {gh : List Nat} {H : Heap U} (hk : nlOkH gh 0 H) {id k : Nat} {b : AB1 U} (hb : H.at id k = some b) (hn : id ∈ gh) : k = 0 ∧ (∀ π w, BlkOk π w (nilPlace (szA H[id]?)) b) ∧ (∀ sz, ¬ b.phys (nilPlace sz)) := by
  unfold Heap.at at hb
  split at hb
  · rename_i b0 hid
    split at hb
    · rename_i hk0
      cases hb
      have h1 := ((nlH_get hk hid).1 (by rw [Nat.zero_add]; exact hn)).1
      rw [hid]
      cases b with
      | row c l t =>
        have hl : l = [] := h1
        subst hl
        refine ⟨hk0, fun π w => ⟨rfl, rfl, rfl, by simp [nilPlace], [], by simp [RepE, RepL], by simp, .inl ⟨rfl, rfl⟩⟩, fun sz hph => hph rfl⟩
      | ro c l =>
        have hl : l = [] := h1
        subst hl
        exact ⟨hk0, fun π w => ⟨rfl, fun i x hi => by simp at hi⟩, fun sz hph => hph.1 rfl⟩
      | cells vs t => exact h1.elim
      | rc vs t => exact h1.elim
      | map m l => exact h1.elim
      | mrow o vs => exact h1.elim
    · cases hb
  · rename_i n f hid
    exact (((nlH_get hk hid).1 (by rw [Nat.zero_add]; exact hn)).1).elim
  · cases hb

theorem Conc.nil {gh : List Nat} {H : Heap U} {π : Plc} {w : World} (hk : nlOkH gh 0 H) (hc : Conc π (nlH gh 0 H) w) : Conc (π.nil gh H) H w := by
  have hN := Plc.nilAt π gh H
  refine ⟨fun id k b hb => ?_, fun id k b id' k' b' p p' hb hb' hne ho hp hp' h1 h2 => ?_⟩
  · by_cases hm : id ∈ gh
    · obtain ⟨rfl, hok, _⟩ := nilA_at hk hb hm
      exact ⟨_, by unfold Plc.nil; rw [if_pos ⟨hm, rfl⟩], hok _ _⟩
    · obtain ⟨b', hb', _, _, hh⟩ := nlA_at hk hb hm
      obtain ⟨p, hp, hok⟩ := hc.ok _ _ _ hb'
      exact ⟨p, by rw [hN.out id k hm]; exact hp, hh _ _ _ _ hN hok⟩
  · have notin : ∀ id k (b : AB1 U) p, H.at id k = some b → (π.nil gh H) id k = some p → b.phys p → id ∉ gh := by
      intro id k b p hb hp hph hm
      obtain ⟨rfl, _, hn⟩ := nilA_at hk hb hm
      unfold Plc.nil at hp; rw [if_pos ⟨hm, rfl⟩] at hp; cases hp
      exact hn _ hph
    have m1 := notin _ _ _ _ hb hp h1
    have m2 := notin _ _ _ _ hb' hp' h2
    obtain ⟨c, hc1, hco, hcp, _⟩ := nlA_at hk hb m1
    obtain ⟨c', hc1', _, hcp', _⟩ := nlA_at hk hb' m2
    rw [hN.out id k m1] at hp
    rw [hN.out id' k' m2] at hp'
    exact hc.sep id k c id' k' c' p p' hc1 hc1' hne (by rw [hco]; exact ho) hp hp' ((hcp p).2 h1) ((hcp' p').2 h2)

/-! ### which ones (told, not trusted) -/
def addN (m id : Nat) (l : List Nat) : List Nat :=
  match Nat.blt id m || memN id l with
  | true => l
  | false => id :: l
mutual
def ghV (m : Nat) : AV → AV → List Nat → List Nat
  | .v (.slice none 0 0), .gs id' _, l => addN m id' l
  | .v (.slice none 0 0), .sl id' _ _ _, l => addN m id' l
  | .sl id _ _ _, .sl id' _ _ _, l => match Nat.beq id noId with
    | true => addN m id' l
    | false => l
  | .fn _ xs ys, .fn _ xs' ys', l => ghL m ys ys' (ghL m xs xs' l)
  | .ifc _ x, .ifc _ x', l => ghV m x x' l
  | .agg xs, .agg xs', l => ghL m xs xs' l
  | .tup xs, .tup xs', l => ghL m xs xs' l
  | _, _, l => l
def ghL (m : Nat) : List AV → List AV → List Nat → List Nat
  | x :: xs, y :: ys, l => ghL m xs ys (ghV m x y l)
  | _, _, l => l
end
def ghF (m : Nat) (fr : Fr) : Fr → List Nat → List Nat
  | [], l => l
  | (t, x) :: r, l => ghF m fr r (ghV m (fr.get t) x l)
def ghP (m : Nat) (H H' : Heap U) : List (Nat × Nat) → List Nat → List Nat
  | [], l => l
  | (id', id) :: q, l => ghP m H H' q (match nth H id, nth H' id' with
    | some (.one b), some (.one b') => match inB b, inB b' with
      | some vs, some vs' => ghL m vs vs' l
      | _, _ => l
    | _, _ => l)
def ghI (m : Nat) (H H' : Heap U) : Nat → Nat → List Nat → List Nat
  | 0, _, l => l
  | n + 1, id, l => ghI m H H' n (id + 1) (match nth H id, nth H' id with
    | some (.one b), some (.one b') => match inB b, inB b' with
      | some vs, some vs' => ghL m vs vs' l
      | _, _ => l
    | _, _ => l)

mutual
def noV (gh : List Nat) : AV → Bool
  | .gs id _ => !memN id gh
  | .sl id _ _ _ => !memN id gh
  | .ptr id _ _ _ => !memN id gh
  | .map id _ => !memN id gh
  | .fn _ xs ys => noL gh xs && noL gh ys
  | .ifc _ x => noV gh x
  | .agg xs => noL gh xs
  | .tup xs => noL gh xs
  | .alt _ a b => noV gh a && noV gh b
  | .junk => true
  | .tt => true
  | .ff => true
  | .v _ => true
def noL (gh : List Nat) : List AV → Bool
  | [] => true
  | x :: xs => noV gh x && noL gh xs
end
mutual
theorem no_rep {gh : List Nat} {π π2 : Plc} (h : ∀ id k, id ∉ gh → π2 id k = π id k) : ∀ {a : AV} {y : Value}, noV gh a = true → Rep π a y → Rep π2 a y
  | .junk, _, _, _ => by simp [Rep]
  | .tt, y, _, e => by simpa [Rep] using e
  | .ff, y, _, e => by simpa [Rep] using e
  | .v x, y, _, e => by simpa [Rep] using e
  | .gs id k, y, hk, e => by simp only [noV] at hk; simp only [Rep] at e ⊢; rw [h id k (memN_false (by simpa using hk))]; exact e
  | .sl id k off len, y, hk, e => by simp only [noV] at hk; simp only [Rep] at e ⊢; rw [h id k (memN_false (by simpa using hk))]; exact e
  | .ptr id k i fo, y, hk, e => by simp only [noV] at hk; simp only [Rep] at e ⊢; rw [h id k (memN_false (by simpa using hk))]; exact e
  | .map id k, y, hk, e => by simp only [noV] at hk; simp only [Rep] at e ⊢; rw [h id k (memN_false (by simpa using hk))]; exact e
  | .fn f xs ys, y, hk, e => by
    simp only [noV, Bool.and_eq_true] at hk
    simp only [Rep] at e ⊢; obtain ⟨a, b, e, h1, h2⟩ := e
    exact ⟨a, b, e, no_repL h hk.1 h1, no_repL h hk.2 h2⟩
  | .ifc t x, y, hk, e => by
    simp only [noV] at hk
    simp only [Rep] at e ⊢; obtain ⟨z, e, h1⟩ := e; exact ⟨z, e, no_rep h hk h1⟩
  | .agg xs, y, hk, e => by
    simp only [noV] at hk
    simp only [Rep] at e ⊢; obtain ⟨a, e, h1⟩ := e; exact ⟨a, e, no_repL h hk h1⟩
  | .tup xs, y, hk, e => by
    simp only [noV] at hk
    simp only [Rep] at e ⊢; obtain ⟨a, e, h1⟩ := e; exact ⟨a, e, no_repL h hk h1⟩
  | .alt c a b, y, hk, e => by
    simp only [noV, Bool.and_eq_true] at hk
    simp only [Rep] at e ⊢; exact ⟨fun hc => no_rep h hk.1 (e.1 hc), fun hc => no_rep h hk.2 (e.2 hc)⟩
theorem no_repL {gh : List Nat} {π π2 : Plc} (h : ∀ id k, id ∉ gh → π2 id k = π id k) : ∀ {xs : List AV} {ys : List Value}, noL gh xs = true → RepL π xs ys → RepL π2 xs ys
  | [], ys, _, e => by simpa [RepL] using e
  | x :: xs, ys, hk, e => by
    simp only [noL, Bool.and_eq_true] at hk
    simp only [RepL] at e ⊢; obtain ⟨z, zs, e, h1, h2⟩ := e
    exact ⟨z, zs, e, no_rep h hk.1 h1, no_repL h hk.2 h2⟩
end
def noD (gh : List Nat) : Df → Bool
  | [] => true
  | .call _ xs ys :: l => noL gh xs && noL gh ys && noD gh l
  | .mark :: l => noD gh l
  | .pend _ :: l => noD gh l
theorem noD_ok {gh : List Nat} {π π2 : Plc} (h : ∀ id k, id ∉ gh → π2 id k = π id k) {lo : Nat} {w : World} : ∀ {df : Df} {ds : List Deferred}, noD gh df = true → DfOk lo π w df ds → DfOk lo π2 w df ds
  | [], ds, _, e => e
  | .call f xs ys :: l, ds, hk, ⟨cap, args, ds', e, h1, h2, h3⟩ => by
    simp only [noD, Bool.and_eq_true] at hk
    exact ⟨cap, args, ds', e, no_repL h hk.1.1 h1, no_repL h hk.1.2 h2, noD_ok h hk.2 h3⟩
  | .mark :: l, ds, hk, ⟨D, ds', e, h1, h2, h3, h4⟩ => ⟨D, ds', e, h1, h2, h3, noD_ok h (df := l) hk h4⟩
  | .pend j :: l, ds, hk, e => noD_ok h (df := l) hk e

def nlF (gh : List Nat) : Fr → Fr
  | [] => []
  | (t, x) :: l => (t, nlV gh x) :: nlF gh l
def nlOkF (gh : List Nat) : Fr → Prop
  | [] => True
  | (_, x) :: l => nlOkV gh x ∧ nlOkF gh l
theorem nlF_get {gh : List Nat} {π π2 : Plc} (h : NilAt gh π π2) {tmps : Array Value} : ∀ {fr : Fr}, nlOkF gh fr → ∀ t, Rep π ((nlF gh fr).get t) (tmps.getD t undef) → Rep π2 (fr.get t) (tmps.getD t undef)
  | [], _, t, _ => by simp [Fr.get, Rep]
  | (t', x) :: l, hk, t, e => by
    simp only [nlOkF] at hk
    simp only [nlF] at e
    rw [Fr.get_cons] at e ⊢
    split
    · rename_i he; rw [if_pos he] at e; exact nl_rep h hk.1 e
    · rename_i he; rw [if_neg he] at e; exact nlF_get h hk.2 t e

def geL (m N : Nat) : List Nat → Bool
  | [] => true
  | x :: l => Nat.ble m x && Nat.blt x N && geL m N l
theorem geL_ok {m N : Nat} : ∀ {l : List Nat}, geL m N l = true → ∀ x ∈ l, m ≤ x ∧ x < N
  | [], _, x, h => by cases h
  | y :: l, h, x, hx => by
    simp only [geL, Bool.and_eq_true] at h
    rcases List.mem_cons.1 hx with rfl | hx
    · exact ⟨by simpa using h.1.1, by simpa using h.1.2⟩
    · exact geL_ok h.2 x hx

/-- One state seen as another one, nil slices as rows without elements. -/
def weakN (m : Nat) (fr : Fr) (df : Df) (H : Heap U) (fr' : Fr) (H' : Heap U) : Prop :=
  let l0 := mtB m H H' m 0 (mtF m fr fr' [])
  let l := mtH m H H' 40 l0 l0
  match ghP m H H' l (ghI m H H' m 0 (ghF m fr fr' [])) with
  | [] => weakA m fr df H fr' H'
  | gh => isB (geL m H'.length gh && noD gh df) (nlOkF gh fr' ∧ nlOkH gh 0 H' ∧ weakA m fr df H (nlF gh fr') (nlH gh 0 H'))

theorem weakN_ok {B : Base U} {fr fr' : Fr} {df : Df} {H H' : Heap U} {π : Plc} {w : World} {a : Act} (h : weakN B.H.length fr df H fr' H') (hS : St B fr df H π w a) : ∃ π', St B fr' df H' π' w a := by
  unfold weakN at h
  simp only at h
  split at h
  · exact weak_ok h hS
  · generalize ghP B.H.length H H' _ _ = gh at h
    obtain ⟨hb, hF, hH, hw⟩ := isB_ok h
    rw [Bool.and_eq_true] at hb
    obtain ⟨π1, h1⟩ := weak_ok hw hS
    have hge := geL_ok hb.1
    have hN := Plc.nilAt π1 gh H'
    have hlen : (nlH gh 0 H').length = H'.length := nlH_length _ _ _
    refine ⟨π1.nil gh H', fun t => nlF_get hN hF t (h1.fr t), h1.conc.nil hH, fun id k hi => ?_, fun id k hi => ?_, h1.keeps, fun n hn => ?_, h1.nt, h1.j, noD_ok hN.out hb.2 h1.df, by have := h1.len; rwa [hlen] at this⟩
    · rw [hN.out id k (fun hm => by have := hge id hm; omega)]
      exact h1.fresh id k (by rw [hlen]; exact hi)
    · rw [hN.out id k (fun hm => by have := hge id hm; omega)]
      exact h1.only id k hi
    · obtain ⟨id, k, b, p, hb', ho, hp, hph, e⟩ := hn
      have hni : id ∉ gh := fun hm => by
        obtain ⟨rfl, _, hnp⟩ := nilA_at hH hb' hm
        unfold Plc.nil at hp; rw [if_pos ⟨hm, rfl⟩] at hp; cases hp
        exact hnp _ hph
      obtain ⟨c, hc1, hco, hcp, _⟩ := nlA_at hH hb' hni
      rw [hN.out id k hni] at hp
      exact h1.own n ⟨id, k, c, p, hc1, by rw [hco]; exact ho, hp, (hcp p).2 hph, e⟩
end AE
