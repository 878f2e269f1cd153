/- An own symbolic executor: maps whose keys are numbers, or structs of numbers. No condition. -/
import Derived.Test.YtfhpdgmhdppggaaAe14
namespace AE
open Go

variable {U : Uni}

def intT (P : Program) (t : TypeId) (k : IntKind) : Bool :=
  match P.underlying t with
  | some (.int k') => decide (k = k')
  | _ => false

def fieldsOk (P : Program) : List Field → List IntKind → Nat → Bool
  | [], [], _ => true
  | f :: fs, k :: ks, o => !(f.name == "_") && (f.offset == o) && intT P f.type k && fieldsOk P fs ks (o + 1)
  | _, _, _ => false

def keyOk (P : Program) (t : TypeId) (ks : Bool × List IntKind) : Bool :=
  match P.underlying t, ks with
  | some (.int k), (false, [k']) => decide (k = k')
  | some (.struct fs), (true, kl) => !P.stoodInHeld t && fieldsOk P fs.toList kl 0
  | _, _ => false

def keyInts : List IntKind → List AV → Option (List Int)
  | [], [] => some []
  | k :: ks, .v (.int k' n) :: xs => match decEq k k' with
    | .isTrue _ => (keyInts ks xs).map (n :: ·)
    | .isFalse _ => none
  | _, _ => none

def keyA (ks : Bool × List IntKind) (x : AV) : Option (List Int) :=
  match ks.1, x with
  | true, .agg xs => keyInts ks.2 xs
  | false, x => keyInts ks.2 [x]
  | _, _ => none

def keyVs (ks : List IntKind) (l : List Int) : List Value := (ks.zip l).map fun (k, n) => .int k n

theorem keyInts_ok {π : Plc} : ∀ {ks : List IntKind} {xs : List AV} {l : List Int} {ys : List Value}, keyInts ks xs = some l → RepL π xs ys → ys = keyVs ks l ∧ l.length = ks.length
  | [], [], l, ys, h, hr => by simp [keyInts] at h; subst h; simp only [RepL] at hr; subst hr; exact ⟨rfl, rfl⟩
  | [], x :: xs, l, ys, h, hr => by simp [keyInts] at h
  | k :: ks, [], l, ys, h, hr => by simp [keyInts] at h
  | k :: ks, x :: xs, l, ys, h, hr => by
    unfold keyInts at h
    split at h
    · rename_i heq1 heq2; cases heq1
    · rename_i k1 ks1 k' n xs1 heq1 heq2
      simp at heq1 heq2
      obtain ⟨rfl, rfl⟩ := heq1
      obtain ⟨rfl, rfl⟩ := heq2
      split at h
      case h_2 => cases h
      rename_i e _
      subst e
      cases hk : keyInts ks xs with
      | none => simp [hk] at h
      | some l' =>
        simp [hk] at h; subst h
        simp only [RepL] at hr
        obtain ⟨z, zs, rfl, hz, hr⟩ := hr
        obtain ⟨h1, h2⟩ := keyInts_ok hk hr
        rw [rep_v hz, h1]
        exact ⟨rfl, by simp [h2]⟩
    · cases h

theorem keyA_ok {π : Plc} {ks : Bool × List IntKind} {x : AV} {l : List Int} {y : Value} (h : keyA ks x = some l) (h1 : ks.1 = false → ks.2.length = 1) (hr : Rep π x y) : y = keyV ks l ∧ l.length = ks.2.length := by
  unfold keyA at h
  split at h
  · rename_i xs hk
    simp only [Rep] at hr
    obtain ⟨a, rfl, hr⟩ := hr
    obtain ⟨e, hl⟩ := keyInts_ok h hr
    refine ⟨?_, hl⟩
    unfold keyV
    rw [hk, if_pos rfl]
    congr 1
    apply Array.toList_inj.1
    rw [e]; rfl
  · rename_i hk
    obtain ⟨e, hl⟩ := keyInts_ok h (RepL.cons hr (RepL.nil π))
    refine ⟨?_, hl⟩
    have h1' := h1 hk
    unfold keyV
    rw [hk, if_neg (by simp)]
    match hks : ks.2, l, hl with
    | [k], [n], _ => simp [keyVs, hks] at e; simpa using e
    | [], _, _ => simp [hks] at h1'
    | _ :: _ :: _, _, _ => simp [hks] at h1'
  · cases h

theorem run_eqFields_ints {P : Program} (w : World) (d : Nat) : ∀ (fs : List Field) (ks : List IntKind) (o : Nat) (a b : List Int) (xs ys : Array Value), fieldsOk P fs ks o = true → a.length = ks.length → b.length = ks.length →
    xs.toList.drop o = keyVs ks a → ys.toList.drop o = keyVs ks b → (Op.eqFields (d + 1) xs ys fs).run P w = .ok (decide (a = b)) w
  | [], [], o, a, b, xs, ys, _, ha, hb, _, _ => by
    have : a = [] := List.eq_nil_of_length_eq_zero ha
    have : b = [] := List.eq_nil_of_length_eq_zero hb
    subst a b; simp [Op.eqFields]
  | [], k :: ks, o, a, b, xs, ys, h, _, _, _, _ => by simp [fieldsOk] at h
  | f :: fs, [], o, a, b, xs, ys, h, _, _, _, _ => by simp [fieldsOk] at h
  | f :: fs, k :: ks, o, n :: a, m :: b, xs, ys, h, ha, hb, hx, hy => by
    simp only [fieldsOk, Bool.and_eq_true, Bool.not_eq_true', beq_eq_false_iff_ne, beq_iff_eq] at h
    obtain ⟨⟨⟨hn, ho⟩, ht⟩, hfs⟩ := h
    unfold intT at ht
    split at ht
    case h_2 => cases ht
    rename_i k' hu
    have hkk : k = k' := by simpa using ht
    subst hkk
    have hagg : aggT P f.type = some false := by unfold aggT; rw [hu]
    have hx0 : xs[o]? = some (.int k n) := by
      have : (xs.toList.drop o)[0]? = some (.int k n) := by rw [hx]; rfl
      rw [List.getElem?_drop] at this; simpa using this
    have hy0 : ys[o]? = some (.int k m) := by
      have : (ys.toList.drop o)[0]? = some (.int k m) := by rw [hy]; rfl
      rw [List.getElem?_drop] at this; simpa using this
    have hx1 : xs.toList.drop (o + 1) = keyVs ks a := by
      rw [← List.drop_drop, hx]; rfl
    have hy1 : ys.toList.drop (o + 1) = keyVs ks b := by
      rw [← List.drop_drop, hy]; rfl
    have ih := run_eqFields_ints w d fs ks (o + 1) a b xs ys hfs (by simpa using ha) (by simpa using hb) hx1 hy1
    have hpx : (Go.part f.type xs f.offset).run P w = .ok (.int k n) w := by simp [Go.part, run_isAgg hagg, ho, hx0]
    have hpy : (Go.part f.type ys f.offset).run P w = .ok (.int k m) w := by simp [Go.part, run_isAgg hagg, ho, hy0]
    have heq := run_equalIn_int (P := P) w d f.type k k n m hu
    simp only [Op.eqFields, ne_eq, hn, not_false_eq_true, if_true, Sem.run_bind, hpx, hpy, heq, Result.andThen_ok, Sem.run_ite, ih, Sem.run_pure]
    by_cases e : n = m
    · subst e; simp
    · simp [e]
  | f :: fs, k :: ks, o, [], b, xs, ys, _, ha, _, _, _ => by simp at ha
  | f :: fs, k :: ks, o, n :: a, [], xs, ys, _, _, hb, _, _ => by simp at hb

theorem run_equal_key {P : Program} (w : World) {t : TypeId} {ks : Bool × List IntKind} (h : keyOk P t ks = true) {a b : List Int} (ha : a.length = ks.2.length) (hb : b.length = ks.2.length) :
    (Op.equal t (keyV ks a) (keyV ks b)).run P w = .ok (decide (a = b)) w := by
  unfold keyOk at h
  split at h
  · rename_i k k' hu
    have hkk : k = k' := by simpa using h
    subst hkk
    match a, b, ha, hb with
    | [n], [m], _, _ =>
      have := run_equalIn_int (P := P) w 9999 t k k n m hu
      have hd : (n == m) = decide ([n] = [m]) := by by_cases e : n = m <;> simp [e]
      rw [← hd]; exact this
  · rename_i fs kl hu
    simp only [Bool.and_eq_true, Bool.not_eq_true'] at h
    have hf : P.fieldsOf t = fs := by simp [Program.fieldsOf, hu]
    have h1 := run_equalIn_struct (P := P) w 9999 t ((kl.zip a).map fun (k, n) => .int k n).toArray ((kl.zip b).map fun (k, n) => .int k n).toArray (by rw [hf]; exact hu) h.1
    rw [hf] at h1
    have h2 := run_eqFields_ints (P := P) w 9998 fs.toList kl 0 a b ((kl.zip a).map fun (k, n) => .int k n).toArray ((kl.zip b).map fun (k, n) => .int k n).toArray h.2 ha hb (by simp [keyVs]) (by simp [keyVs])
    simp only [Op.equal, Op.maxDepth, keyV, if_true]
    exact h1.trans h2
  · cases h

/-- The first entry with a key. -/
def findE (a : List Int) : List (List Int) → List Value → Nat → Option (Nat × Value)
  | k :: ks, v :: vs, i => if a = k then some (i, v) else findE a ks vs (i + 1)
  | _, _, _ => none

theorem run_findAsking {P : Program} (w : World) {t : TypeId} {ks : Bool × List IntKind} (h : keyOk P t ks = true) {a : List Int} (ha : a.length = ks.2.length) : ∀ (es : List MapEntry) (ls : List (List Int)) (i : Nat),
    es.map (·.key) = ls.map (keyV ks) → (∀ l ∈ ls, l.length = ks.2.length) → (Instr.findAsking t (keyV ks a) es i).run P w = .ok (findE a ls (es.map (·.val)) i) w
  | [], [], i, _, _ => by simp [Instr.findAsking, findE]
  | [], l :: ls, i, h, _ => by simp at h
  | e :: es, [], i, h, _ => by simp at h
  | e :: es, l :: ls, i, hk, hl => by
    simp only [List.map_cons, List.cons.injEq] at hk
    have he := run_equal_key w h ha (hl l (by simp))
    rw [← hk.1] at he
    have ih := run_findAsking w h ha es ls (i + 1) hk.2 (fun l' hl' => hl l' (by simp [hl']))
    simp only [Instr.findAsking, Sem.run_bind, he, Result.andThen_ok, findE, List.map_cons]
    by_cases e : a = l
    · simp [e]
    · simp [e, ih]

theorem run_findNow {k : IntKind} {n : Int} : ∀ (es : List MapEntry) (ls : List (List Int)) (i : Nat), es.map (·.key) = ls.map (keyV (false, [k])) → (∀ l ∈ ls, l.length = 1) →
    Instr.findNow (.int k) (.int k n) es i = some (findE [n] ls (es.map (·.val)) i)
  | [], [], i, _, _ => by simp [Instr.findNow, findE]
  | [], l :: ls, i, h, _ => by simp at h
  | e :: es, [], i, h, _ => by simp at h
  | e :: es, [m] :: ls, i, hk, hl => by
    simp only [List.map_cons, List.cons.injEq] at hk
    have ih := run_findNow (k := k) (n := n) es ls (i + 1) hk.2 (fun l' hl' => hl l' (by simp [hl']))
    have hek : e.key = .int k m := by rw [hk.1]; rfl
    simp only [Instr.findNow, Instr.sameNow, hek, if_true, findE, List.map_cons]
    by_cases e : n = m
    · subst e; simp
    · have : (n == m) = false := by simpa using e
      simp [this, e, ih]
  | e :: es, [] :: ls, i, hk, hl => by have := hl [] (by simp); simp at this
  | e :: es, (m :: m' :: l) :: ls, i, hk, hl => by have := hl (m :: m' :: l) (by simp); simp at this

theorem run_findKey {P : Program} (w : World) {t : TypeId} {ks : Bool × List IntKind} (h : keyOk P t ks = true) {a : List Int} (ha : a.length = ks.2.length) (es : List MapEntry) (ls : List (List Int))
    (hk : es.map (·.key) = ls.map (keyV ks)) (hl : ∀ l ∈ ls, l.length = ks.2.length) : (Instr.findKey t (keyV ks a) es).run P w = .ok (findE a ls (es.map (·.val)) 0) w := by
  have hask := run_findAsking w h ha es ls 0 hk hl
  have h' := h
  unfold keyOk at h'
  split at h'
  · rename_i k k' hu
    have hkk : k = k' := by simpa using h'
    subst hkk
    match a, ha with
    | [n], _ =>
      have hn := run_findNow (n := n) es ls 0 hk (by simpa using hl)
      have hkv : keyV (false, [k]) [n] = .int k n := rfl
      simp only [Instr.findKey, Sem.run_bind, run_und hu, Result.andThen_ok, hkv, hn, Sem.run_pure]
  · rename_i fs kl hu
    have hnow : Instr.findNow (.struct fs) (keyV (true, kl) a) es 0 = none ∨ es = [] := by
      cases es with
      | nil => exact .inr rfl
      | cons e es => left; simp [Instr.findNow, Instr.sameNow]
    rcases hnow with hnow | rfl
    · simp only [Instr.findKey, Sem.run_bind, run_und hu, Result.andThen_ok, hnow, hask]
    · cases ls with
      | nil => simp [Instr.findKey, run_und hu, Instr.findNow, findE]
      | cons l ls => simp at hk
  · cases h'

theorem run_checkKey_fields {P : Program} (w : World) (d : Nat) (b : Bool) : ∀ (fs : List Field) (ks : List IntKind) (o : Nat) (a : List Int) (xs : Array Value), fieldsOk P fs ks o = true → a.length = ks.length → xs.toList.drop o = keyVs ks a →
    (forIn fs PUnit.unit (fun (f : Field) (_ : PUnit) => (do
      if f.name ≠ "_" then do
        let x ← Go.part f.type xs f.offset
        Instr.checkKey b (d + 1) f.type x
        Pure.pure (ForInStep.yield PUnit.unit)
      else Pure.pure (ForInStep.yield PUnit.unit) : Sem (ForInStep PUnit)))).run P w = .ok PUnit.unit w
  | [], [], o, a, xs, _, ha, _ => by simp
  | [], k :: ks, o, a, xs, h, _, _ => by simp [fieldsOk] at h
  | f :: fs, [], o, a, xs, h, _, _ => by simp [fieldsOk] at h
  | f :: fs, k :: ks, o, n :: a, xs, h, ha, hx => by
    simp only [fieldsOk, Bool.and_eq_true, Bool.not_eq_true', beq_eq_false_iff_ne, beq_iff_eq] at h
    obtain ⟨⟨⟨hn, ho⟩, ht⟩, hfs⟩ := h
    unfold intT at ht
    split at ht
    case h_2 => cases ht
    rename_i k' hu
    have hkk : k = k' := by simpa using ht
    subst hkk
    have hagg : aggT P f.type = some false := by unfold aggT; rw [hu]
    have hx0 : xs[o]? = some (.int k n) := by
      have : (xs.toList.drop o)[0]? = some (.int k n) := by rw [hx]; rfl
      rw [List.getElem?_drop] at this; simpa using this
    have hx1 : xs.toList.drop (o + 1) = keyVs ks a := by rw [← List.drop_drop, hx]; rfl
    have ih := run_checkKey_fields w d b fs ks (o + 1) a xs hfs (by simpa using ha) hx1
    have hpx : (Go.part f.type xs f.offset).run P w = .ok (.int k n) w := by simp [Go.part, run_isAgg hagg, ho, hx0]
    have hck : (Instr.checkKey b (d + 1) f.type (.int k n)).run P w = .ok () w := by simp [Instr.checkKey, run_und hu]
    simp only [List.forIn_cons, ne_eq, hn, not_false_eq_true, if_true, Sem.run_bind, hpx, hck, Result.andThen_ok, Sem.run_pure]
    exact ih
  | f :: fs, k :: ks, o, [], xs, _, ha, _ => by simp at ha

theorem run_checkKey' {P : Program} (w : World) {t : TypeId} {ks : Bool × List IntKind} (h : keyOk P t ks = true) {a : List Int} (ha : a.length = ks.2.length) (b : Bool) (n : Nat) : (Instr.checkKey b (n + 1 + 1) t (keyV ks a)).run P w = .ok () w := by
  unfold keyOk at h
  split at h
  · rename_i k k' hu
    have hkk : k = k' := by simpa using h
    subst hkk
    match a, ha with
    | [m], _ => simp [Instr.checkKey, keyV, run_und hu]
  · rename_i fs kl hu
    simp only [Bool.and_eq_true, Bool.not_eq_true'] at h
    obtain ⟨xs, hkv, hxs⟩ : ∃ xs : Array Value, keyV (true, kl) a = .agg xs ∧ xs.toList.drop 0 = keyVs kl a := ⟨_, rfl, by simp [keyVs]⟩
    have := run_checkKey_fields (P := P) w n b fs.toList kl 0 a xs h.2 ha hxs
    rw [Instr.checkKey, hkv]
    simp only [Sem.run_bind, run_und hu, Result.andThen_ok]
    rw [← Array.forIn_toList, this]
    rfl
  · cases h

theorem run_checkKey {P : Program} (w : World) {t : TypeId} {ks : Bool × List IntKind} (h : keyOk P t ks = true) {a : List Int} (ha : a.length = ks.2.length) (b : Bool) : (Instr.checkKey b 10000 t (keyV ks a)).run P w = .ok () w := run_checkKey' w h ha b 9998
end AE
