/- An own symbolic executor: maps: make, look up, store. No condition. -/
import Derived.Test.YtfhpdgmhdppggaaAe15
namespace AE
open Go

variable {U : Uni}

def mapKs (U : Uni) (m : U.M) : Bool := match (U.mks m).1 with
  | true => true
  | false => (match (U.mks m).2 with
    | [_] => true
    | _ => false)
theorem mapKs_ok {m : U.M} (h : mapKs U m = true) : (U.mks m).1 = false → (U.mks m).2.length = 1 := by
  intro h1
  unfold mapKs at h
  rw [h1] at h
  simp only at h
  split at h
  · rename_i e; rw [e]; rfl
  · cases h

def gsL (i : Nat) : Nat → List AV
  | 0 => []
  | n + 1 => .gs i 0 :: gsL (i + 1) n
def nilRows (c : U.C) (e : TypeId) : Nat → List (AB1 U)
  | 0 => []
  | n + 1 => .row c [] e :: nilRows c e n
theorem gsL_length (i : Nat) : ∀ n, (gsL i n).length = n
  | 0 => rfl
  | n + 1 => by simp [gsL, gsL_length (i + 1) n]
theorem gsL_get : ∀ (i n k : Nat), k < n → (gsL i n).getD k .junk = .gs (i + k) 0
  | i, n + 1, 0, _ => by simp [gsL]
  | i, n + 1, k + 1, h => by
    have := gsL_get (i + 1) n k (by omega)
    simp only [gsL, List.getD_cons_succ, this]
    congr 1; omega
theorem nilRows_length (c : U.C) (e : TypeId) : ∀ n, (nilRows c e n).length = n
  | 0 => rfl
  | n + 1 => by simp [nilRows, nilRows_length c e n]
theorem nilRows_get (c : U.C) (e : TypeId) : ∀ (n j : Nat) (b : AB1 U), (nilRows c e n)[j]? = some b → b = .row c [] e
  | 0, j, b, h => by simp [nilRows] at h
  | n + 1, 0, b, h => by simp [nilRows] at h; exact h.symm
  | n + 1, j + 1, b, h => nilRows_get c e n j b (by simpa [nilRows] using h)

def opMakeMap (P : Program) (t : TypeId) (base : Nat) (K : OOut U → Prop) : Prop :=
  match P.underlying t, U.mcode t with
  | some (.map _ _), some m => K (.val ⟨.map base 0, [], [], [.map m []]⟩)
  | some (.map _ _), none => match U.mrow t with
    | some (n, c, e) => K (.val ⟨.map base 0, [], [], .mrow true (gsL (base + 1) n) :: nilRows c e n⟩)
    | none => False
  | _, _ => False

theorem Post.newMap {H : Heap U} {base : Nat} {π : Plc} {w : World} {m : U.M} (hf : π base 0 = none) :
    Post H base ⟨.map base 0, [], [], [.map m []]⟩ π (π.put base (mkPlace w.heap.size)) w (w.alloc (.map #[] 0)) (.map (some w.heap.size)) := by
  have hsub : Sub π (π.put base (mkPlace w.heap.size)) := Plc.sub_put hf
  refine ⟨by simp only [Rep]; exact ⟨_, Plc.put_same _ _ _, rfl⟩, hsub, fun id k h => ?_, fun j b hb => ?_, fun i j b b' p p' h h' hne => ?_, fun id k b h => by simp at h, fun id k h => by simp at h, Keeps.alloc _ w _⟩
  · have h' : id < base ∨ base + 1 ≤ id := h
    have : ¬ (id = base ∧ k = 0) := by omega
    simp [Plc.put, this]
  · cases j with
    | zero =>
      simp at hb; subst hb
      refine ⟨rfl, mkPlace w.heap.size, Plc.put_same _ _ _, ⟨#[], 0, ?_, by simp, by simp, by simp [RepL], by simp⟩, fun _ => .inl (Nat.le_refl _)⟩
      show (w.heap.push _)[w.heap.size]? = _; simp
    | succ j => simp at hb
  · have hi : i < 1 := by rcases Nat.lt_or_ge i 1 with h1 | h1; exact h1; simp [List.getElem?_eq_none (by simpa using h1 : [AB1.map (U := U) m []].length ≤ i)] at h
    have hj : j < 1 := by rcases Nat.lt_or_ge j 1 with h1 | h1; exact h1; simp [List.getElem?_eq_none (by simpa using h1 : [AB1.map (U := U) m []].length ≤ j)] at h'
    omega

/-- A place of a row that is nil. -/
def nilPlace (sz : Nat) : Place := { blk := 0, off := 0, esz := sz, sa := none, sn := 0, sc := 0 }

theorem Post.newMrow {H : Heap U} {base : Nat} {π : Plc} {w : World} {n : Nat} {c : U.C} {e : TypeId} (hf : ∀ j k, j < n + 1 → π (base + j) k = none) :
    ∃ πn, Post H base ⟨.map base 0, [], [], .mrow true (gsL (base + 1) n) :: nilRows c e n⟩ π πn w (w.alloc (.map #[] 0)) (.map (some w.heap.size)) := by
  let πn : Plc := fun id k => if id = base ∧ k = 0 then some (mkPlace w.heap.size) else if base < id ∧ id ≤ base + n ∧ k = 0 then some (nilPlace (U.sz c)) else π id k
  have h0 : πn base 0 = some (mkPlace w.heap.size) := by simp [πn]
  have h1 : ∀ i, i < n → πn (base + 1 + i) 0 = some (nilPlace (U.sz c)) := fun i hi => by
    show (if _ then _ else if _ then _ else _) = _
    rw [if_neg (by omega), if_pos (by omega)]
  have hlen : (AB1.mrow true (gsL (base + 1) n) :: nilRows c e n : List (AB1 U)).length = n + 1 := by simp [nilRows_length]
  have hrow : ∀ w', BlkOk πn w' (nilPlace (U.sz c)) (.row c [] e : AB1 U) := fun w' => by
    refine ⟨rfl, rfl, rfl, by simp [nilPlace], [], by simp [RepE, RepL], ?_, .inl ⟨rfl, rfl⟩⟩
    simp
  refine ⟨πn, by simp only [Rep]; exact ⟨_, h0, rfl⟩, fun id k p hp => ?_, fun id k h => ?_, fun j b hb => ?_, fun i j b b' p p' h h' hne hp hp' hph hph' => ?_, fun id k b h => by simp at h, fun id k h => by simp at h, Keeps.alloc _ w _⟩
  · show (if _ then _ else if _ then _ else _) = _
    have : ¬ (base ≤ id ∧ id < base + (n + 1)) := fun hh => by
      have := hf (id - base) k (by omega)
      rw [show base + (id - base) = id by omega] at this
      rw [this] at hp; cases hp
    rw [if_neg (by omega), if_neg (by omega)]; exact hp
  · have hl : (AB1.mrow true (gsL (base + 1) n) :: nilRows c e n : List (AB1 U)).length = n + 1 := hlen
    have h' : id < base ∨ base + (n + 1) ≤ id := by rw [← hl]; exact h
    show (if _ then _ else if _ then _ else _) = _
    rw [if_neg (by omega), if_neg (by omega)]
  · cases j with
    | zero =>
      simp at hb; subst hb
      refine ⟨rfl, mkPlace w.heap.size, h0, ⟨#[], 0, [], ?_, by simp, by simp, by simp, by simp [RepL], fun k hk _ => ?_⟩, fun _ => .inl (Nat.le_refl _)⟩
      · show (w.heap.push _)[w.heap.size]? = _; simp
      · rw [gsL_length] at hk
        rw [gsL_get _ _ _ hk]
        simp only [Rep]
        exact ⟨_, h1 k hk, rfl⟩
    | succ j =>
      have hb' : (nilRows c e n)[j]? = some b := by simpa using hb
      have hj : j < n := by have := (List.getElem?_eq_some_iff.1 hb').1; rwa [nilRows_length] at this
      have := nilRows_get c e n j b hb'
      subst this
      refine ⟨rfl, nilPlace (U.sz c), by rw [show base + (j + 1) = base + 1 + j by omega]; exact h1 j hj, hrow _, fun hph => ?_⟩
      exact absurd rfl hph
  · have hz : ∀ (i : Nat) (b : AB1 U) (p : Place), (AB1.mrow true (gsL (base + 1) n) :: nilRows c e n : List (AB1 U))[i]? = some b → πn (base + i) 0 = some p → b.phys p → i = 0 := by
      intro i b p hb hp hph
      cases i with
      | zero => rfl
      | succ i =>
        exfalso
        have hb' : (nilRows c e n)[i]? = some b := by simpa using hb
        have hj : i < n := by have := (List.getElem?_eq_some_iff.1 hb').1; rwa [nilRows_length] at this
        have := nilRows_get c e n i b hb'
        subst this
        rw [show base + (i + 1) = base + 1 + i by omega, h1 i hj] at hp
        cases hp
        exact hph rfl
    exact absurd ((hz i b p h hp hph).trans (hz j b' p' h' hp' hph').symm) hne

theorem opMakeMap_ok {P : Program} {o : Oper} {ρ : Operand → AV} {H : Heap U} {base : Nat} {t : TypeId} {K : OOut U → Prop} (ho : o.op = .makeMap t none)
    (h : opMakeMap P t base K) : ∃ r, K r ∧ OpOk P o ρ H base r := by
  unfold opMakeMap at h
  split at h
  · refine ⟨_, h, fun rd nn π w a hc hρ hf => ?_⟩
    refine wpIn_of_run (r := .ok (.value (.map (some w.heap.size))) (w.alloc (.map #[] 0))) (by simp [ho]) ?_ ⟨_, _, rfl, Post.newMap (by simpa using hf 0 0 (by simp))⟩
    simp [execOp, ho, Instr.makeMap]
  · split at h
    case h_2 => exact h.elim
    rename_i n c e _
    refine ⟨_, h, fun rd nn π w a hc hρ hf => ?_⟩
    obtain ⟨πn, hp⟩ := Post.newMrow (H := H) (base := base) (π := π) (w := w) (n := n) (c := c) (e := e) fun j k hj => hf j k (by simpa [nilRows_length] using hj)
    refine wpIn_of_run (r := .ok (.value (.map (some w.heap.size))) (w.alloc (.map #[] 0))) (by simp [ho]) ?_ ⟨_, πn, rfl, hp⟩
    simp [execOp, ho, Instr.makeMap]
  · exact h.elim

/-- The first entry with a key. -/
def mfind (U : Uni) (m : U.M) (k : List Int) (l : List (U.mty m)) : Option (U.mty m) := l.find? fun e => decide (k = U.mkey m e)

theorem findE_find {m : U.M} {k : List Int} {π : Plc} : ∀ {l : List (U.mty m)} {vs : List Value} (i : Nat), RepL π (l.map (U.mval m)) vs →
    (∀ x, mfind U m k l = some x → ∃ j v, findE k (l.map (U.mkey m)) vs i = some (j, v) ∧ Rep π (U.mval m x) v ∧ i ≤ j ∧ l[j - i]? = some x ∧ vs[j - i]? = some v ∧ k = U.mkey m x) ∧ (mfind U m k l = none → findE k (l.map (U.mkey m)) vs i = none)
  | [], vs, i, h => by simp [mfind, findE]
  | e :: l, vs, i, h => by
    simp only [List.map_cons, RepL] at h
    obtain ⟨z, zs, rfl, hz, h⟩ := h
    have ih := findE_find (i + 1) h (k := k)
    by_cases hk : k = U.mkey m e
    · constructor
      · intro x hx
        simp [mfind, List.find?_cons, ← hk] at hx
        subst hx
        exact ⟨i, z, by simp [findE, ← hk], hz, Nat.le_refl _, by simp, by simp, hk⟩
      · intro hx; simp [mfind, List.find?_cons, ← hk] at hx
    · have hfind : mfind U m k (e :: l) = mfind U m k l := by simp [mfind, List.find?_cons, hk]
      rw [hfind]
      constructor
      · intro x hx
        obtain ⟨j, v, h1, h2, h3, h4, h5, h6⟩ := ih.1 x hx
        have e1 : j - i = (j - (i + 1)) + 1 := by omega
        exact ⟨j, v, by simp [findE, hk, h1], h2, by omega, by rw [e1]; simpa using h4, by rw [e1]; simpa using h5, h6⟩
      · intro hx; simp [findE, hk, ih.2 hx]

def zeroV (P : Program) (t : TypeId) : Option AV := (P.info? t).bind fun i => i.zero.map constAV
theorem zeroV_ok {P : Program} {t : TypeId} {x : AV} (h : zeroV P t = some x) (w : World) : ∃ z, (zeroValue t).run P w = .ok z w ∧ ∀ π, Rep π x z := by
  unfold zeroV at h
  cases hi : P.info? t with
  | none => simp [hi] at h
  | some i =>
    cases hz : i.zero with
    | none => simp [hi, hz] at h
    | some z =>
      simp [hi, hz] at h; subst h
      exact ⟨z, by simp [zeroValue, typeInfo, hi, hz], fun π => constAV_rep π z⟩

def opLookup (P : Program) (t : TypeId) (x key : AV) (ok : Bool) (H : Heap U) (K : AV → Prop) : Prop :=
  match P.underlying t with
  | some (.map kt vt) => match zeroV P vt with
    | some z => match x with
      | .map id k => H.get id k fun
        | .map m l => isB (keyOk P kt (U.mks m) && mapKs U m) (match keyA (U.mks m) key with
          | some ks =>
            K (match ok with
              | true => .tup [sel (mfind U m ks l).isSome (U.mval m ((mfind U m ks l).getD (U.mdf m))) z, .b (mfind U m ks l).isSome]
              | false => sel (mfind U m ks l).isSome (U.mval m ((mfind U m ks l).getD (U.mdf m))) z)
          | none => False)
        | .mrow _ vs => match ok, key with
          | false, .v (.int .i64 (.ofNat n)) => isB (keyOk P kt (false, [.i64])) (z = .v (.slice none 0 0) ∧ match nth vs n with
            | some v => K v
            | none => False)
          | _, _ => False
        | _ => False
      | _ => False
    | none => False
  | _ => False

/-- Where a number stands in a list. -/
theorem findE_nats {n : Nat} : ∀ (ks : List Nat) (vs : List Value) (i : Nat), ks.length = vs.length → ks.Nodup →
    (n ∈ ks → ∃ j v, findE [(n : Int)] (ks.map fun (k : Nat) => [(k : Int)]) vs i = some (i + j, v) ∧ ks[j]? = some n ∧ vs[j]? = some v) ∧ (n ∉ ks → findE [(n : Int)] (ks.map fun (k : Nat) => [(k : Int)]) vs i = none)
  | [], vs, i, _, _ => by refine ⟨fun h => ?_, fun _ => ?_⟩ <;> simp_all [findE]
  | k :: ks, [], i, h, _ => by simp at h
  | k :: ks, v :: vs, i, h, hn => by
    obtain ⟨h1, h2⟩ := findE_nats (n := n) ks vs (i + 1) (by simpa using h) (List.nodup_cons.1 hn).2
    by_cases e : n = k
    · subst e
      exact ⟨fun _ => ⟨0, v, by simp [findE], rfl, rfl⟩, fun hh => absurd (List.mem_cons_self ..) hh⟩
    · have e' : ¬ (n : Int) = (k : Int) := by omega
      refine ⟨fun hm => ?_, fun hm => ?_⟩
      · obtain ⟨j, v', a1, a2, a3⟩ := h1 ((List.mem_cons.1 hm).resolve_left e)
        exact ⟨j + 1, v', by simp only [List.map_cons, findE, List.cons.injEq, e', and_true, if_false, a1]; congr 2; omega, by simpa using a2, by simpa using a3⟩
      · simp only [List.map_cons, findE, List.cons.injEq, e', and_true, if_false]
        exact h2 fun hh => hm (List.mem_cons_of_mem _ hh)

theorem opLookup_ok {P : Program} {o : Oper} {ρ : Operand → AV} {H : Heap U} {base : Nat} {t : TypeId} {xo ko : Operand} {ok : Bool} {K : OOut U → Prop} (ho : o.op = .lookup t xo ko ok)
    (h : opLookup P t (ρ xo) (ρ ko) ok H fun x => K (.val ⟨x, [], [], []⟩)) : ∃ r, K r ∧ OpOk P o ρ H base r := by
  unfold opLookup at h
  split at h
  case h_2 => exact h.elim
  rename_i kt vt hu
  split at h
  case h_2 => exact h.elim
  rename_i z hz
  split at h
  case h_2 => exact h.elim
  rename_i id k hx
  obtain ⟨b, hb, h⟩ := Heap.get_at h
  cases b with
  | ro c l => exact h.elim
  | cells vs t => exact h.elim
  | rc vs t => exact h.elim
  | row c l t => exact h.elim
  | map m l =>
    obtain ⟨hkm, h⟩ := isB_ok h
    simp only [Bool.and_eq_true] at hkm
    split at h
    case h_2 => exact h.elim
    rename_i ks hks
    refine OpOk.pureV h (by simp [ho]) fun π w a hc hρ => ?_
    obtain ⟨p, hp, es, ck, h1, h2, h3, h4, h5⟩ := hc.ok id k _ hb
    have hv := hρ xo; rw [hx] at hv; simp only [Rep] at hv
    obtain ⟨p', hp', e⟩ := hv
    rw [hp] at hp'; cases hp'
    obtain ⟨hkv, hkl⟩ := keyA_ok hks (mapKs_ok hkm.2) (hρ ko)
    obtain ⟨zv, hzr, hzz⟩ := zeroV_ok hz w
    have hfk := run_findKey w hkm.1 hkl es.toList (l.map (U.mkey m)) (by rw [h3]; simp) (fun x hx => by simp at hx; obtain ⟨y, hy, rfl⟩ := hx; exact h5 y hy)
    have hck := run_checkKey (P := P) w hkm.1 hkl es.isEmpty
    obtain ⟨hs, hn⟩ := findE_find (k := ks) 0 h4
    have hget : (getObj p.blk).run P w = .ok (.map es ck) w := by simp [getObj, Sem.run, h1]
    cases hf : mfind U m ks l with
    | none =>
      have hfe := hn hf
      rw [hfe] at hfk
      refine ⟨if ok then .tuple #[zv, .bool false] else zv, ?_, ?_⟩
      · have : (Instr.lookup t (a.eval xo) (a.eval ko) ok).run P w = .ok (if ok then .tuple #[zv, .bool false] else zv) w := by
          simp [Instr.lookup, run_und hu, e, hget, hkv, hck, hfk, hzr]
        simp [execOp, ho, this]
      · cases ok with
        | true => simp only [Rep, if_true]; exact ⟨_, rfl, RepL.cons (sel_rep (fun hc => by simp at hc) (fun _ => hzz π)) (RepL.cons (by simp [Rep]) (RepL.nil π))⟩
        | false => exact sel_rep (fun hc => by simp at hc) (fun _ => hzz π)
    | some x =>
      obtain ⟨j, v, hfe, hv, _⟩ := hs x hf
      rw [hfe] at hfk
      refine ⟨if ok then .tuple #[v, .bool true] else v, ?_, ?_⟩
      · have : (Instr.lookup t (a.eval xo) (a.eval ko) ok).run P w = .ok (if ok then .tuple #[v, .bool true] else v) w := by
          simp [Instr.lookup, run_und hu, e, hget, hkv, hck, hfk]
        simp [execOp, ho, this]
      · cases ok with
        | true => simp only [Rep, if_true]; exact ⟨_, rfl, RepL.cons (sel_rep (fun _ => by simpa using hv) (fun hc => by simp at hc)) (RepL.cons (by simp [Rep]) (RepL.nil π))⟩
        | false => exact sel_rep (fun _ => by simpa using hv) (fun hc => by simp at hc)
  | mrow ow vs =>
    simp only at h
    split at h
    case h_2 => exact h.elim
    rename_i m hkey _
    obtain ⟨hko, hz0, hbr⟩ := isB_ok h
    split at hbr
    case h_2 => exact hbr.elim
    rename_i v hv0
    rw [nth_eq] at hv0
    have hml : m < vs.length := (List.getElem?_eq_some_iff.1 hv0).1
    have hK : K (.val ⟨vs.getD m .junk, [], [], []⟩) := by rw [List.getD_eq_getElem?_getD, hv0]; exact hbr
    refine OpOk.pureV hK (by simp [ho]) fun π w a hc hρ => ?_
    obtain ⟨p, hp, es, ck, ks, h1, h2, h3, h4, h5, h6⟩ := hc.ok id k _ hb
    have hv := hρ xo; rw [hx] at hv; simp only [Rep] at hv
    obtain ⟨p', hp', e⟩ := hv
    rw [hp] at hp'; cases hp'
    have hkv : a.eval ko = keyV (false, [.i64]) [(m : Int)] := by
      have := hρ ko; rw [hkey] at this; simp only [Rep] at this; rw [this]; rfl
    obtain ⟨zv, hzr, hzz⟩ := zeroV_ok hz w
    have hzv : zv = .slice none 0 0 := by have := hzz π; rw [hz0] at this; simpa [Rep] using this
    subst hzv
    have hek : es.toList.map (·.key) = (ks.map fun (k : Nat) => [(k : Int)]).map (keyV (false, [.i64])) := by rw [h4, List.map_map]; rfl
    have hfk := run_findKey w hko (a := [(m : Int)]) rfl es.toList (ks.map fun (k : Nat) => [(k : Int)]) hek (fun x hx => by simp at hx; obtain ⟨y, hy, rfl⟩ := hx; rfl)
    have hck := run_checkKey (P := P) w hko (a := [(m : Int)]) rfl es.isEmpty
    have hlen : ks.length = (es.toList.map (·.val)).length := by have := congrArg List.length h4; simpa using this.symm
    obtain ⟨hs, hnn⟩ := findE_nats (n := m) ks (es.toList.map (·.val)) 0 hlen h2
    have hget : (getObj p.blk).run P w = .ok (.map es ck) w := by simp [getObj, Sem.run, h1]
    by_cases hm : m ∈ ks
    · obtain ⟨j, v, hfe, hj, hvj⟩ := hs hm
      rw [hfe] at hfk
      refine ⟨v, ?_, ?_⟩
      · have : (Instr.lookup t (a.eval xo) (a.eval ko) false).run P w = .ok v w := by
          simp [Instr.lookup, run_und hu, e, hget, hkv, hck, hfk]
        simp [execOp, ho, this]
      · obtain ⟨y, hy, hr⟩ := h5.get (j := j) (x := vs.getD m .junk) (by rw [List.getElem?_map, hj]; rfl)
        rw [hvj] at hy; cases hy; exact hr
    · have hfe := hnn hm
      rw [hfe] at hfk
      refine ⟨.slice none 0 0, ?_, h6 m hml hm⟩
      have : (Instr.lookup t (a.eval xo) (a.eval ko) false).run P w = .ok (.slice none 0 0) w := by
        simp [Instr.lookup, run_und hu, e, hget, hkv, hck, hfk, hzr]
      simp [execOp, ho, this]

/-- A map with an entry stored. -/
def mput (U : Uni) (m : U.M) (k : List Int) (e : U.mty m) (l : List (U.mty m)) : List (U.mty m) :=
  match mfind U m k l with
  | some _ => l.map fun x => if U.mkey m x = k then e else x
  | none => l ++ [e]

def opMapUpdate (P : Program) (t : TypeId) (x key y : AV) (H : Heap U) (K : OOut U → Prop) : Prop :=
  match P.underlying t with
  | some (.map kt _) => match x with
    | .map id k => H.get id k fun
      | .map m l => isB (keyOk P kt (U.mks m) && mapKs U m) (match keyA (U.mks m) key with
        | some ks => (U.mkey m (U.mdec m ks y.nrm) = ks ∧ U.mval m (U.mdec m ks y.nrm) = y.nrm) ∧ K (.val ⟨.junk, [(id, k, .map m (mput U m ks (U.mdec m ks y.nrm) l))], [], []⟩)
        | none => False)
      | .mrow true vs => match key with
        | .v (.int .i64 (.ofNat n)) => isB (keyOk P kt (false, [.i64]) && Nat.blt n vs.length) (K (.val ⟨.junk, [(id, k, .mrow true (vs.set n y))], [], []⟩))
        | _ => False
      | _ => False
    | _ => False
  | _ => False

theorem sameBits_ints : ∀ (n : Nat) (ks : List IntKind) (l : List Int), ((keyVs ks l).zip (keyVs ks l)).all (fun (x, y) => Instr.sameBits n x y) = true
  | n, [], l => by simp [keyVs]
  | n, k :: ks, [] => by simp [keyVs]
  | n, k :: ks, m :: l => by
    have ih := sameBits_ints n ks l
    simp only [keyVs, List.zip_cons_cons, List.map_cons, List.all_cons, Bool.and_eq_true] at ih ⊢
    refine ⟨?_, ih⟩
    cases n <;> simp [Instr.sameBits]

theorem sameBits_key (ks : Bool × List IntKind) (l : List Int) (h1 : ks.1 = false → ks.2.length = 1) (hl : l.length = ks.2.length) : Instr.sameBits 10000 (keyV ks l) (keyV ks l) = true := by
  have key : ∀ n, Instr.sameBits (n + 1) (keyV ks l) (keyV ks l) = true := by
    intro n
    cases hk : ks.1 with
    | true =>
      have := sameBits_ints n ks.2 l
      simp only [keyV, hk, if_true, Instr.sameBits]
      simpa [keyVs] using this
    | false =>
      have h1' := h1 hk
      match hks : ks.2, l, hl with
      | [k], [m], _ => simp [keyV, hk, hks, Instr.sameBits]
      | [], _, _ => simp [hks] at h1'
      | _ :: _ :: _, _, _ => simp [hks] at h1'
  exact key 9999

theorem mput_keys {m : U.M} {ks : List Int} {e : U.mty m} (he : U.mkey m e = ks) (l : List (U.mty m)) : (l.map fun x => if U.mkey m x = ks then e else x).map (U.mkey m) = l.map (U.mkey m) := by
  rw [List.map_map]
  apply List.map_congr_left
  intro x _
  simp only [Function.comp]
  split
  · rename_i h; rw [he, h]
  · rfl

theorem Keeps.putObj (w : World) (g : Nat) (o : Obj) : Keeps (fun n => n = g) w { w with heap := w.heap.setIfInBounds g o } :=
  ⟨rfl, rfl, rfl, by simp, fun k _ hk => by simp [Array.getElem?_setIfInBounds_ne (Ne.symm hk)]⟩

theorem opMapUpdate_ok {P : Program} {o : Oper} {ρ : Operand → AV} {H : Heap U} {base : Nat} {t : TypeId} {xo ko yo : Operand} {K : OOut U → Prop} (ho : o.op = .mapUpdate t xo ko yo ∨ o.op = .insert t xo ko yo)
    (h : opMapUpdate P t (ρ xo) (ρ ko) (ρ yo) H K) : ∃ r, K r ∧ OpOk P o ρ H base r := by
  unfold opMapUpdate at h
  split at h
  case h_2 => exact h.elim
  rename_i kt vt hu
  split at h
  case h_2 => exact h.elim
  rename_i id k hx
  obtain ⟨b, hb, h⟩ := Heap.get_at h
  cases b with
  | ro c l => exact h.elim
  | cells vs t => exact h.elim
  | rc vs t => exact h.elim
  | row c l t => exact h.elim
  | map m l =>
    obtain ⟨hkm, h⟩ := isB_ok h
    simp only [Bool.and_eq_true] at hkm
    split at h
    case h_2 => exact h.elim
    rename_i ks hks
    obtain ⟨⟨hmk, hmv⟩, hK⟩ := h
    generalize hen : U.mdec m ks (ρ yo).nrm = en at hmk hmv hK
    refine ⟨_, hK, fun rd nn π w a hc hρ _ => ?_⟩
    obtain ⟨p, hp, es, ck, h1, h2, h3, h4, h5⟩ := hc.ok id k _ hb
    have hv := hρ xo; rw [hx] at hv; simp only [Rep] at hv
    obtain ⟨p', hp', e⟩ := hv
    rw [hp] at hp'; cases hp'
    obtain ⟨hkv, hkl⟩ := keyA_ok hks (mapKs_ok hkm.2) (hρ ko)
    have hfk := run_findKey w hkm.1 hkl es.toList (l.map (U.mkey m)) (by rw [h3]; simp) (fun x hx => by simp at hx; obtain ⟨y, hy, rfl⟩ := hx; exact h5 y hy)
    have hck := run_checkKey (P := P) w hkm.1 hkl false
    obtain ⟨hs, hn⟩ := findE_find (k := ks) 0 h4
    have hget : (getObj p.blk).run P w = .ok (.map es ck) w := by simp [getObj, Sem.run, h1]
    have hset : ∀ ob, (setObj p.blk ob).run P w = .ok () { w with heap := w.heap.setIfInBounds p.blk ob } := by intro ob; simp [setObj, Sem.run, h1]
    have hlt : p.blk < w.heap.size := (Array.getElem?_eq_some_iff.1 h1).1
    have hyr : Rep π (U.mval m en) (a.eval yo) := by rw [hmv]; exact (hρ yo).nrm
    -- what is run, what lies there behind it
    have fin : ∀ ob, (Instr.mapUpdate t (a.eval xo) (a.eval ko) (a.eval yo)).run P w = .ok () { w with heap := w.heap.setIfInBounds p.blk ob } →
        BlkOk π { w with heap := w.heap.setIfInBounds p.blk ob } p (AB1.map (U := U) m (mput U m ks en l)) →
        o.wpIn (Fw rd) nn P a w (fun a' w' => ∃ v πn, a' = a.put o.dst v ∧ Post H base ⟨.junk, [(id, k, .map m (mput U m ks en l))], [], []⟩ π πn w w' v) (fun _ _ _ => False) := by
      intro ob hrun hbk
      refine wpIn_of_run (by rcases ho with ho | ho <;> simp [ho]) (r := .ok .skip { w with heap := w.heap.setIfInBounds p.blk ob }) ?_ ⟨undef, π, rfl, Post.turn hb rfl rfl hp hbk (fun _ => trivial) trivial (Keeps.putObj _ _ _) rfl⟩
      rcases ho with ho | ho <;> simp [execOp, ho, hrun]
    cases hf : mfind U m ks l with
    | none =>
      have hfe := hn hf
      rw [hfe] at hfk
      refine fin (.map (es.push { key := a.eval ko, val := a.eval yo, born := ck }) (ck + 1)) ?_ ?_
      · simp only [Instr.mapUpdate, Sem.run_bind, run_und hu, Result.andThen_ok, e, hget, hkv, hck, hfk, hset]
      · refine ⟨es.push { key := a.eval ko, val := a.eval yo, born := ck }, ck + 1, by simp [hlt], ?_, ?_, ?_, ?_⟩
        · simp only [mput, hf, List.map_append, List.map_cons, List.map_nil]
          refine List.nodup_append.2 ⟨h2, by simp, ?_⟩
          intro x hx y hy
          simp at hy hx
          subst hy
          obtain ⟨z, hz, rfl⟩ := hx
          intro he
          have := List.find?_eq_none.1 hf z hz
          simp at this
          exact this (by rw [he, hmk])
        · simp [mput, hf, h3, hkv, hmk]
        · simp only [mput, hf, Array.toList_push, List.map_append, List.map_cons, List.map_nil]
          exact h4.append (RepL.cons hyr (RepL.nil π))
        · intro x hx
          simp only [mput, hf, List.mem_append, List.mem_singleton] at hx
          rcases hx with hx | rfl
          · exact h5 x hx
          · rw [hmk]; exact hkl
    | some x =>
      obtain ⟨j, v, hfe, hv, _, hlj, hvj, hkx⟩ := hs x hf
      rw [hfe] at hfk
      simp only [Nat.sub_zero] at hlj hvj
      have hej : ∃ ej, es[j]? = some ej ∧ ej.key = keyV (U.mks m) ks := by
        have hjl : j < es.size := by have := (List.getElem?_eq_some_iff.1 hvj).1; simpa using this
        refine ⟨es[j], Array.getElem?_eq_getElem hjl, ?_⟩
        have h6 : (es.toList.map (·.key))[j]? = some (keyV (U.mks m) (U.mkey m x)) := by rw [h3]; simp [hlj]
        rw [← hkx] at h6
        simpa [hjl] using h6
      obtain ⟨ej, hej, hejk⟩ := hej
      have hjl : j < es.size := (Array.getElem?_eq_some_iff.1 hej).1
      refine fin (.map (es.modify j fun e' => { e' with key := a.eval ko, val := a.eval yo }) ck) ?_ ?_
      · have hstay : (Instr.keyThatStays (keyV (U.mks m) ks) (keyV (U.mks m) ks)).run P w = .ok (keyV (U.mks m) ks) w := by
          simp [Instr.keyThatStays, sameBits_key _ _ (mapKs_ok hkm.2) hkl]
        have hjk : ((es[j]?).map (·.key)).getD (keyV (U.mks m) ks) = keyV (U.mks m) ks := by rw [hej]; simp [hejk]
        simp only [Instr.mapUpdate, Sem.run_bind, run_und hu, Result.andThen_ok, e, hget, hkv, hck, hfk, hjk, hstay, hset]
      · have hput : mput U m ks en l = l.map fun x => if U.mkey m x = ks then en else x := by simp [mput, hf]
        rw [hput]
        refine ⟨es.modify j fun e' => { e' with key := a.eval ko, val := a.eval yo }, ck, by simp [hlt], by rw [mput_keys hmk]; exact h2, ?_, ?_, ?_⟩
        · have hk2 : (l.map fun x => if U.mkey m x = ks then en else x).map (fun x => keyV (U.mks m) (U.mkey m x)) = l.map (fun x => keyV (U.mks m) (U.mkey m x)) := by
            have := congrArg (List.map (keyV (U.mks m))) (mput_keys hmk l)
            simpa [List.map_map] using this
          rw [hk2, ← h3]
          apply List.ext_getElem?
          intro i
          simp only [List.getElem?_map, Array.getElem?_toList, Array.getElem?_modify]
          by_cases hij : j = i
          · subst hij; simp [hej, hejk, hkv]
          · simp [hij]
        · refine RepL.of_get (by have := h4.length; simpa using this) fun i y hy => ?_
          simp only [List.getElem?_map, Option.map_eq_some_iff] at hy
          obtain ⟨y', ⟨y0, hy0, rfl⟩, rfl⟩ := hy
          by_cases hij : j = i
          · subst hij
            rw [hlj] at hy0; cases hy0
            rw [if_pos hkx.symm]
            exact ⟨a.eval yo, by simp [hej], hyr⟩
          · have hne : U.mkey m y0 ≠ ks := by
              intro he
              have a1 : (l.map (U.mkey m))[j]? = some ks := by simp [hlj, ← hkx]
              have a2 : (l.map (U.mkey m))[i]? = some ks := by simp [hy0, he]
              have hil : i < (l.map (U.mkey m)).length := (List.getElem?_eq_some_iff.1 a2).1
              have hjl2 : j < (l.map (U.mkey m)).length := (List.getElem?_eq_some_iff.1 a1).1
              exact hij ((List.getElem?_inj hjl2 h2).1 (a1.trans a2.symm))
            rw [if_neg hne]
            have h7 : (l.map (U.mval m))[i]? = some (U.mval m y0) := by simp [hy0]
            obtain ⟨z, hz, hrz⟩ := h4.get h7
            refine ⟨z, ?_, hrz⟩
            simp only [List.getElem?_map, Array.getElem?_toList, Array.getElem?_modify, if_neg hij] at hz ⊢
            exact hz
        · intro y hy
          simp only [List.mem_map] at hy
          obtain ⟨y0, hy0, rfl⟩ := hy
          split
          · rw [hmk]; exact hkl
          · exact h5 y0 hy0
  | mrow ow vs =>
    cases ow with
    | false => exact h.elim
    | true =>
    simp only at h
    split at h
    case h_2 => exact h.elim
    rename_i m hkey
    obtain ⟨hkb, hK⟩ := isB_ok h
    rw [Bool.and_eq_true] at hkb
    obtain ⟨hko, hml'⟩ := hkb
    have hml : m < vs.length := by simpa using hml'
    refine ⟨_, hK, fun rd nn π w a hc hρ _ => ?_⟩
    obtain ⟨p, hp, es, ck, ks, h1, h2, h3, h4, h5, h6⟩ := hc.ok id k _ hb
    have hv := hρ xo; rw [hx] at hv; simp only [Rep] at hv
    obtain ⟨p', hp', e⟩ := hv
    rw [hp] at hp'; cases hp'
    have hkv : a.eval ko = keyV (false, [.i64]) [(m : Int)] := by
      have := hρ ko; rw [hkey] at this; simp only [Rep] at this; rw [this]; rfl
    have hek : es.toList.map (·.key) = (ks.map fun (k : Nat) => [(k : Int)]).map (keyV (false, [.i64])) := by rw [h4, List.map_map]; rfl
    have hfk := run_findKey w hko (a := [(m : Int)]) rfl es.toList (ks.map fun (k : Nat) => [(k : Int)]) hek (fun x hx => by simp at hx; obtain ⟨y, hy, rfl⟩ := hx; rfl)
    have hck := run_checkKey (P := P) w hko (a := [(m : Int)]) rfl false
    have hlen : ks.length = (es.toList.map (·.val)).length := by have := congrArg List.length h4; simpa using this.symm
    obtain ⟨hs, hnn⟩ := findE_nats (n := m) ks (es.toList.map (·.val)) 0 hlen h2
    have hget : (getObj p.blk).run P w = .ok (.map es ck) w := by simp [getObj, Sem.run, h1]
    have hset : ∀ ob, (setObj p.blk ob).run P w = .ok () { w with heap := w.heap.setIfInBounds p.blk ob } := by intro ob; simp [setObj, Sem.run, h1]
    have hlt : p.blk < w.heap.size := (Array.getElem?_eq_some_iff.1 h1).1
    have hyr : Rep π (ρ yo) (a.eval yo) := hρ yo
    have hsetD : ∀ i, (vs.set m (ρ yo)).getD i .junk = if i = m then ρ yo else vs.getD i .junk := fun i => by
      by_cases hi : i = m
      · subst hi; simp [List.getD_eq_getElem?_getD, hml]
      · simp [List.getD_eq_getElem?_getD, hi, List.getElem?_set_ne (Ne.symm hi)]
    have fin : ∀ ob, (Instr.mapUpdate t (a.eval xo) (a.eval ko) (a.eval yo)).run P w = .ok () { w with heap := w.heap.setIfInBounds p.blk ob } →
        BlkOk π { w with heap := w.heap.setIfInBounds p.blk ob } p (AB1.mrow (U := U) true (vs.set m (ρ yo))) →
        o.wpIn (Fw rd) nn P a w (fun a' w' => ∃ v πn, a' = a.put o.dst v ∧ Post H base ⟨.junk, [(id, k, .mrow true (vs.set m (ρ yo)))], [], []⟩ π πn w w' v) (fun _ _ _ => False) := by
      intro ob hrun hbk
      refine wpIn_of_run (by rcases ho with ho | ho <;> simp [ho]) (r := .ok .skip { w with heap := w.heap.setIfInBounds p.blk ob }) ?_ ⟨undef, π, rfl, Post.turn hb rfl rfl hp hbk (fun _ => trivial) trivial (Keeps.putObj _ _ _) rfl⟩
      rcases ho with ho | ho <;> simp [execOp, ho, hrun]
    by_cases hm : m ∈ ks
    · obtain ⟨j, v, hfe, hj, hvj⟩ := hs hm
      rw [hfe, Nat.zero_add] at hfk
      have hjl : j < es.size := by have := (List.getElem?_eq_some_iff.1 hvj).1; simpa using this
      have hejk : es[j].key = .int .i64 (m : Int) := by
        have h7 : (es.toList.map (·.key))[j]? = some (.int .i64 (m : Int)) := by rw [h4]; simp [hj]
        simpa [hjl] using h7
      refine fin (.map (es.modify j fun e' => { e' with key := a.eval ko, val := a.eval yo }) ck) ?_ ?_
      · have hkv' : keyV (false, [.i64]) [(m : Int)] = .int .i64 (m : Int) := rfl
        have hstay : (Instr.keyThatStays (.int .i64 (m : Int)) (.int .i64 (m : Int))).run P w = .ok (.int .i64 (m : Int)) w := by
          have := sameBits_key (false, [.i64]) [(m : Int)] (fun _ => rfl) rfl
          rw [hkv'] at this
          simp [Instr.keyThatStays, this]
        rw [hkv'] at hkv hfk hck
        have hjk : ((es[j]?).map (·.key)).getD (.int .i64 (m : Int)) = .int .i64 (m : Int) := by simp [hjl, hejk]
        simp only [Instr.mapUpdate, Sem.run_bind, run_und hu, Result.andThen_ok, e, hget, hkv, hck, hfk, hjk, hstay, hset]
      · refine ⟨es.modify j fun e' => { e' with key := a.eval ko, val := a.eval yo }, ck, ks, by simp [hlt], h2, fun k hk => by simpa using h3 k hk, ?_, ?_, fun k hk hn => ?_⟩
        · rw [← h4]
          apply List.ext_getElem?
          intro i
          simp only [List.getElem?_map, Array.getElem?_toList, Array.getElem?_modify]
          by_cases hij : j = i
          · subst hij; rw [hkv]; simp [hjl, hejk]; rfl
          · simp [hij]
        · refine RepL.of_get (by have := h5.length; simpa using this) fun i y hy => ?_
          simp only [List.getElem?_map, Option.map_eq_some_iff] at hy
          obtain ⟨k0, hk0, rfl⟩ := hy
          rw [hsetD]
          by_cases hij : j = i
          · subst hij
            rw [hj] at hk0; cases hk0
            rw [if_pos rfl]
            exact ⟨a.eval yo, by simp [hjl], hyr⟩
          · have hne : k0 ≠ m := by
              intro he
              subst he
              exact hij ((List.getElem?_inj (List.getElem?_eq_some_iff.1 hj).1 h2).1 (hj.trans hk0.symm))
            rw [if_neg hne]
            obtain ⟨z, hz, hrz⟩ := h5.get (j := i) (x := vs.getD k0 .junk) (by rw [List.getElem?_map, hk0]; rfl)
            refine ⟨z, ?_, hrz⟩
            simp only [List.getElem?_map, Array.getElem?_toList, Array.getElem?_modify, if_neg hij] at hz ⊢
            exact hz
        · rw [hsetD, if_neg (fun e => hn (by rw [e]; exact hm))]
          exact h6 k (by simpa using hk) hn
    · have hfe := hnn hm
      rw [hfe] at hfk
      refine fin (.map (es.push { key := a.eval ko, val := a.eval yo, born := ck }) (ck + 1)) ?_ ?_
      · simp only [Instr.mapUpdate, Sem.run_bind, run_und hu, Result.andThen_ok, e, hget, hkv, hck, hfk, hset]
      · refine ⟨es.push { key := a.eval ko, val := a.eval yo, born := ck }, ck + 1, ks ++ [m], by simp [hlt], ?_, ?_, ?_, ?_, fun k hk hn => ?_⟩
        · refine List.nodup_append.2 ⟨h2, by simp, ?_⟩
          intro x hx y hy he
          simp at hy; subst hy; subst he; exact hm hx
        · intro k hk
          rcases List.mem_append.1 hk with hk | hk
          · simpa using h3 k hk
          · simp at hk; subst hk; simpa using hml
        · rw [hkv]; simp [h4]; rfl
        · simp only [Array.toList_push, List.map_append, List.map_cons, List.map_nil]
          refine RepL.append ?_ (RepL.cons (by rw [hsetD, if_pos rfl]; exact hyr) (RepL.nil π))
          have : (ks.map fun k => (vs.set m (ρ yo)).getD k .junk) = ks.map fun k => vs.getD k .junk := List.map_congr_left fun k hk => by
            rw [hsetD, if_neg (fun e => hm (by rw [← e]; exact hk))]
          rw [this]; exact h5
        · have hk1 : k ∉ ks := fun h => hn (List.mem_append_left _ h)
          have hk2 : k ≠ m := fun h => hn (by rw [h]; simp)
          rw [hsetD, if_neg hk2]
          exact h6 k (by simpa using hk) hk1
end AE
