/- An own symbolic executor: append. No condition. -/
import Derived.Test.YtfhpdgmhdppggaaAe12
namespace AE
open Go

variable {U : Uni}

theorem run_append_zero {P : Program} {w : World} {t ty e : TypeId} {i : TypeInfo} (ht : P.underlying t = some (.slice e)) (hi : P.info? e = some i) {base : Nat} {size : Nat}
    {v : Value} {n : Nat} {xs : List Value} (hown : w.ownsRow base e size v n xs) (a : Option Addr) (c : Nat) : (Builtin.append_ #[t, t] ty #[v, .slice a 0 c]).run P w = .ok v w := by
  rcases hown.2 with ⟨rfl, rfl⟩ | ⟨g, cap, cur, rfl, _, _, hnc, _⟩
  · cases a <;> simp [Builtin.append_, run_underlying ht, Go.sizeOf, typeInfo, hi, Builtin.lenOf, Builtin.firstCells, loadCells, loadCellsFrom]
  · cases a <;> simp [Builtin.append_, run_underlying ht, Go.sizeOf, typeInfo, hi, Builtin.lenOf, Builtin.firstCells, hnc, storeCells, loadCells, loadCellsFrom]

/-- append onto a row that is owned: the row behind it lies where it lay, or in a new block. -/
theorem append_own {P : Program} (w : World) (t ty e : TypeId) (i : TypeInfo) (z : Value) (size : Nat) (ht : P.underlying t = some (.slice e)) (hi : P.info? e = some i) (hz : i.zero = some z)
    (hsize : i.size = size) (hzs : z.cells.size = size) (hsz : 0 < size)
    (v : Value) (n : Nat) (xs : List Value) (hown : w.ownsRow 0 e size v n xs)
    (a : Addr) (m c : Nat) (news : List Value) (hl : news.length = m * size) (hnews : ∀ j u, news[j]? = some u → w.cell? (a.add j) = some u) (h1 : ∀ u ∈ news, u.oneCell' = true)
    (h40 : n + m ≤ 1099511627776) (hbytes : i.bytes ≤ 128) :
    ∃ v' w', (Builtin.append_ #[t, t] ty #[v, .slice (some a) m c]).run P w = .ok v' w' ∧ w'.ownsRow 0 e size v' (n + m) (xs ++ news) ∧ w.grownBy w' v.ownBlock ∧
      (∀ g, v'.ownBlock = some g → w.heap.size ≤ g ∨ v.ownBlock = some g) := by
  by_cases hm : m = 0
  · subst hm
    have hn : news = [] := List.eq_nil_of_length_eq_zero (by simpa using hl)
    subst hn
    refine ⟨v, w, run_append_zero ht hi hown _ _, by simpa using hown, ⟨rfl, rfl, rfl, Nat.le_refl _, fun _ _ _ => rfl⟩, fun g hg => .inr hg⟩
  have hb2 : (n + m) * i.bytes ≤ 140737488355328 := by
    have : (n + m) * i.bytes ≤ 1099511627776 * 128 := Nat.mul_le_mul h40 hbytes
    omega
  subst hsize
  have hlen : (xs ++ news).length = (n + m) * i.size := by rw [List.length_append, hown.1, hl, Nat.add_mul]
  have h63 : n + m ≤ maxLen := by unfold maxLen; omega
  have grown : ∀ (old : Nat), old < n + m → ∀ (row : Option Nat),
      (w.drew.alloc (.cells (xs.toArray ++ news.toArray ++ Builtin.zeroCells z.cells (grownCap w (n + m) old e - (n + m))) e)).ownsRow 0 e i.size
        (.slice (some ⟨w.heap.size, 0, none⟩) (n + m) (grownCap w (n + m) old e)) (n + m) (xs ++ news) ∧
      w.grownBy (w.drew.alloc (.cells (xs.toArray ++ news.toArray ++ Builtin.zeroCells z.cells (grownCap w (n + m) old e - (n + m))) e)) row := by
    intro old ho row
    have hge := grownCap_ge w (n + m) old e
    have hcm : grownCap w (n + m) old e ≤ maxLen := grownCap_le_maxLen w (n + m) old e h63
    refine ⟨⟨hlen, .inr ⟨w.heap.size, _, _, rfl, Nat.zero_le _, heap_alloc_new w.drew _, hge, hcm, ?_, ?_⟩⟩, ⟨rfl, rfl, rfl, by simp, fun k hk _ => by show (w.heap.push _)[k]? = _; rw [Array.getElem?_push, if_neg (by omega)]⟩⟩
    · simp only [Array.size_append, List.size_toArray, size_zeroCells, hzs, hown.1, hl, ← Nat.add_mul]
      congr 1
      omega
    · simp only [Array.toList_append, List.append_assoc]
      rw [← List.append_assoc, ← hlen]
      exact List.take_left
  rcases hown.2 with ⟨rfl, rfl⟩ | ⟨g, cap, cur, rfl, hbg, hg, hnc, hcm, hcs, htake⟩
  · have hx : xs = [] := List.eq_nil_of_length_eq_zero (by simpa using hown.1)
    subst hx
    have hr := run_append_nil (P := P) w t ty e i z ht hi hz a m c news hl hnews (by omega) (by omega) (by have hb := hb2; simp only [Nat.zero_add] at hb; omega)
    have hgr := grown 0 (by omega) (Value.ownBlock (.slice none 0 0))
    simp only [Nat.zero_add, List.nil_append, Array.empty_append] at hgr ⊢
    exact ⟨_, _, hr, hgr.1, hgr.2, fun g hg => .inl (by simp [Value.ownBlock] at hg; omega)⟩
  · by_cases hroom : n + m ≤ cap
    · have hfit : n * i.size + news.length ≤ cur.size := by rw [hl, hcs, ← Nat.add_mul]; exact Nat.mul_le_mul_right _ hroom
      have hr := run_append_room (P := P) w t ty e i ht hi g n cap cur hg a m c news hl hnews h1 hroom hfit
      refine ⟨_, _, hr, ⟨hlen, .inr ⟨g, cap, _, rfl, hbg, setRow_heap w g cur _ e _ hg, hroom, hcm, ?_, ?_⟩⟩, ⟨rfl, rfl, rfl, by simp, fun k _ hk => setRow_other w g k _ (fun e => hk (by simp [Value.ownBlock, e]))⟩, fun g' hg' => .inr hg'⟩
      · simp only [List.size_toArray, List.length_append, List.length_take, List.length_drop, Array.length_toList]
        omega
      · rw [htake, ← hlen]
        exact List.take_left
    · have holds : ∀ j u, xs[j]? = some u → w.cell? ((⟨g, 0, none⟩ : Addr).add j) = some u := hown.cells (g := g) rfl
      have hr := run_append_grow (P := P) w t ty e i z ht hi hz ⟨g, 0, none⟩ n cap xs hown.1 holds a m c news hl hnews (by omega) (by omega) (growslice_fits (by omega) hb2)
      have hgr := grown cap (by omega) (Value.ownBlock (.slice (some ⟨g, 0, none⟩) n cap))
      exact ⟨_, _, hr, hgr.1, hgr.2, fun g' hg' => .inl (by simp [Value.ownBlock] at hg'; omega)⟩

/-- What is appended: the elements, of a kind. -/
def srcL (H : Heap U) (c : U.C) (id0 : Option (Nat × Nat)) (x : AV) (K : List (U.ty c) → Prop) : Prop :=
  match x with
  | .v (.slice none 0 0) => K []
  | x => view H x fun c' l' id k off len => isB (!(some (id, k) == id0)) (match U.deq c' c with
    | .isTrue e => (off + len ≤ (e ▸ l').length) ∧ K (((e ▸ l').drop off).take len)
    | .isFalse _ => False)

theorem take_drop_get {α : Type} {l : List α} {off len i : Nat} {x : α} (h : ((l.drop off).take len)[i]? = some x) : l[off + i]? = some x ∧ i < len := by
  rw [List.getElem?_take] at h
  split at h
  · rw [List.getElem?_drop] at h; exact ⟨h, by assumption⟩
  · cases h

theorem srcL_ok {H : Heap U} {c : U.C} {id0 : Option (Nat × Nat)} {x : AV} {K : List (U.ty c) → Prop} (h : srcL H c id0 x K) :
    ∃ l, K l ∧ ∀ π w y, Conc π H w → Rep π x y → (∀ z ∈ l, ∀ a ∈ U.enc c z, a.one = true) → ∃ ad cap news, y = .slice ad l.length cap ∧ RepE π U c l news ∧ (ad = none → l = []) ∧ (∀ a, ad = some a → ∀ j u, news[j]? = some u → w.cell? (a.add j) = some u) ∧ (∀ u ∈ news, u.oneCell' = true) := by
  unfold srcL at h
  split at h
  · refine ⟨[], h, fun π w y hc hr _ => ⟨none, 0, [], rep_v hr, by simp [RepE, RepL], fun _ => rfl, fun a e => by simp at e, fun u hu => by simp at hu⟩⟩
  · obtain ⟨c', l', id, k, off, len, h, hv⟩ := view_ok h
    obtain ⟨_, h⟩ := isB_ok h
    split at h
    case h_2 => exact h.elim
    rename_i e _
    subst e
    obtain ⟨hle, hK⟩ := h
    have hle : off + len ≤ l'.length := hle
    refine ⟨(l'.drop off).take len, hK, fun π w y hc hr hone => ?_⟩
    obtain ⟨p, a, cap, hp, hesz, hy, hcap, ha, hcell⟩ := hv π w y hc hr
    have hll : ((l'.drop off).take len).length = len := by simp; omega
    -- the cells
    let f : Nat → Value := fun j => (w.cell? ⟨p.blk, p.off + off * p.esz + j, none⟩).getD undef
    have hget : ∀ j q, (((l'.drop off).take len).flatMap (U.enc c'))[j]? = some q → ∃ v, w.cell? ⟨p.blk, p.off + off * p.esz + j, none⟩ = some v ∧ Rep π q v := by
      intro j q hq
      have hjl : j < len * U.sz c' := by
        have := (List.getElem?_eq_some_iff.1 hq).1
        rw [flatMap_length _ _ (U.len c'), hll] at this; exact this
      have hpos : 0 < U.sz c' := by
        rcases Nat.eq_zero_or_pos (U.sz c') with e | e
        · rw [e] at hjl; simp at hjl
        · exact e
      have hi : j / U.sz c' < len := Nat.div_lt_of_lt_mul (by rw [Nat.mul_comm]; exact hjl)
      obtain ⟨z, hz⟩ : ∃ z, ((l'.drop off).take len)[j / U.sz c']? = some z := ⟨_, List.getElem?_eq_getElem (by rw [hll]; exact hi)⟩
      have hdm : j / U.sz c' * U.sz c' + j % U.sz c' = j := by rw [Nat.mul_comm]; exact Nat.div_add_mod j _
      have hg := flatMap_get (U.enc c') (U.sz c') (U.len c') _ _ z hz (j % U.sz c') (Nat.mod_lt _ hpos)
      rw [hdm, hq] at hg
      obtain ⟨v, hv, hrv⟩ := hcell _ z (take_drop_get hz).1 _ q hg.symm
      refine ⟨v, ?_, hrv⟩
      rw [← hv]; congr 2
      rw [hesz, Nat.add_mul]; omega
    have hrep : RepE π U c' ((l'.drop off).take len) ((List.range (len * U.sz c')).map f) := by
      refine RepL.of_get (by rw [flatMap_length _ _ (U.len c'), hll]; simp) fun j q hq => ?_
      obtain ⟨v, hv, hrv⟩ := hget j q hq
      have hjl : j < len * U.sz c' := by
        have := (List.getElem?_eq_some_iff.1 hq).1
        rw [flatMap_length _ _ (U.len c'), hll] at this; exact this
      exact ⟨v, by simp [hjl, f, hv], hrv⟩
    refine ⟨a, cap, _, by rw [hll]; exact hy, hrep, fun e => ?_, fun ad e j u hu => ?_, fun u hu => ?_⟩
    · rcases Nat.eq_zero_or_pos len with e0 | e0
      · subst e0; simp
      · rw [ha e0] at e; cases e
    · have hj : j < len * U.sz c' := by have := (List.getElem?_eq_some_iff.1 hu).1; simpa using this
      rcases Nat.eq_zero_or_pos len with e0 | e0
      · subst e0; simp at hj
      · rw [ha e0] at e; cases e
        rw [Addr.add_eq]
        have hjl : j < (((l'.drop off).take len).flatMap (U.enc c')).length := by rw [flatMap_length _ _ (U.len c'), hll]; exact hj
        obtain ⟨v, hv, _⟩ := hget j _ (List.getElem?_eq_getElem hjl)
        simp [hj, f, hv] at hu
        rw [hv, hu]
    · obtain ⟨j', hjj⟩ := List.mem_iff_getElem?.1 hu
      have hjl := (List.getElem?_eq_some_iff.1 hjj).1
      have hjl' : j' < (((l'.drop off).take len).flatMap (U.enc c')).length := by rw [← hrep.length]; exact hjl
      have hmem := List.getElem_mem hjl'
      obtain ⟨z, hz, hq⟩ := List.mem_flatMap.1 hmem
      obtain ⟨v, hv, hrv⟩ := RepL.get hrep (List.getElem?_eq_getElem hjl')
      rw [hjj] at hv; cases hv
      exact hrv.one (hone z hz _ hq)

def opAppend (P : Program) (t : TypeId) (x y : AV) (H : Heap U) (base : Nat) (K : OOut U → Prop) : Prop :=
  match P.underlying t with
  | some (.slice e) => match tsize P e, zeroAV P e, (P.info? e).map (·.bytes) with
    | some (sz + 1), some z, some by_ => eqB (sz + 1) z.length (leB by_ 128 (match x with
      | .v (.slice none 0 0) => match U.code e with
        | some c => eqB (U.sz c) (sz + 1) (srcL H c none y fun l => l.length ≤ 1099511627776 ∧ K (.val ⟨.gs base 0, [], [], [.row c l e]⟩))
        | none => False
      | .gs id k => H.get id k fun
        | .row c l0 e0 => eqB (U.sz c) (sz + 1) (eqB e0 e (srcL H c (some (id, k)) y fun l => l0.length + l.length ≤ 1099511627776 ∧ K (.val ⟨.gs base 0, [], [(id, k)], [.row c (l0 ++ l) e]⟩)))
        | _ => False
      | _ => False))
    | _, _, _ => False
  | _ => False

theorem grownBy_keeps {w w' : World} {row : Option Nat} {O : Nat → Prop} (h : w.grownBy w' row) (hO : ∀ g, row = some g → O g) : Keeps O w w' :=
  ⟨h.os, h.tape, h.output, h.size, fun k hk ho => h.block k hk (fun e => ho (hO k e.symm))⟩

/-- Behind append. -/
theorem Post.appended {H : Heap U} {base : Nat} {π : Plc} {w w1 : World} {c : U.C} {l0 l : List (U.ty c)} {e : TypeId} {xs news : List Value} {v v' : Value} {kill : List (Nat × Nat)} {cut : Nat}
    (hf : π base 0 = none) (hx : RepE π U c l0 xs) (hn : RepE π U c l news) (hlen : cut = (l0 ++ l).length)
    (hown : w1.ownsRow 0 e (U.sz c) v' cut (xs ++ news)) (hg : w.grownBy w1 v.ownBlock) (hnew : ∀ g, v'.ownBlock = some g → w.heap.size ≤ g ∨ v.ownBlock = some g)
    (hk : ∀ g, v.ownBlock = some g → ∃ id k b0 q, (id, k) ∈ kill ∧ H.at id k = some b0 ∧ b0.own = true ∧ π id k = some q ∧ b0.phys q ∧ q.blk = g)
    (hkill : ∀ id k, (id, k) ∈ kill → ∃ b0, H.at id k = some b0 ∧ b0.own = true) :
    ∃ πn, Post H base ⟨.gs base 0, [], kill, [.row c (l0 ++ l) e]⟩ π πn w w1 v' := by
  subst hlen
  -- the new place
  obtain ⟨p, hpv, hp0, hpe, hpn, hpa, hpb⟩ : ∃ p : Place, p.sv = v' ∧ p.off = 0 ∧ p.esz = U.sz c ∧ p.sn = (l0 ++ l).length ∧ (∀ a, p.sa = some a → a = ⟨p.blk, 0, none⟩) ∧ (p.sa ≠ none → v'.ownBlock = some p.blk) := by
    rcases hown.2 with ⟨rfl, h0⟩ | ⟨g, cap, cur, rfl, _⟩
    · exact ⟨{ blk := 0, off := 0, esz := U.sz c, sa := none, sn := 0, sc := 0 }, rfl, rfl, rfl, h0.symm, by simp, by simp⟩
    · exact ⟨{ blk := g, off := 0, esz := U.sz c, sa := some ⟨g, 0, none⟩, sn := (l0 ++ l).length, sc := cap }, rfl, rfl, rfl, rfl, by simp, by simp [Value.ownBlock]⟩
  have hsub : Sub π (π.put base p) := Plc.sub_put hf
  refine ⟨π.put base p, by simp only [Rep]; exact ⟨p, Plc.put_same _ _ _, hpv.symm⟩, hsub, fun id k h => ?_, fun j b hb => ?_, fun i j b b' p p' h h' hne => ?_, fun id k b h => by simp at h, hkill, ?_⟩
  · have h' : id < base ∨ base + 1 ≤ id := h
    have : ¬ (id = base ∧ k = 0) := by omega
    simp [Plc.put, this]
  · cases j with
    | zero =>
      simp at hb; subst hb
      refine ⟨rfl, p, Plc.put_same _ _ _, ⟨hp0, hpe, hpn, hpa, xs ++ news, ?_, by rw [hpv]; exact hown⟩, fun hph => ?_⟩
      · unfold RepE; rw [List.flatMap_append]; exact (RepL.mono hsub _ _ hx).append (RepL.mono hsub _ _ hn)
      · rcases hnew p.blk (hpb hph) with h | h
        · exact .inl h
        · obtain ⟨id, k, b0, q, h1, h2, h3, h4, h5, h6⟩ := hk _ h
          exact .inr ⟨id, k, b0, q, h1, h2, h3, h4, h5, h6⟩
    | succ j => simp at hb
  · have hi : i < 1 := by rcases Nat.lt_or_ge i 1 with h1 | h1; exact h1; simp [List.getElem?_eq_none (by simpa using h1 : [AB1.row (U := U) c (l0 ++ l) e].length ≤ i)] at h
    have hj : j < 1 := by rcases Nat.lt_or_ge j 1 with h1 | h1; exact h1; simp [List.getElem?_eq_none (by simpa using h1 : [AB1.row (U := U) c (l0 ++ l) e].length ≤ j)] at h'
    omega
  · refine grownBy_keeps hg fun g hgg => ?_
    obtain ⟨id, k, b0, q, h1, h2, h3, h4, h5, h6⟩ := hk _ hgg
    exact ⟨id, k, q, b0, .inr h1, h2, h5, h4, h6⟩

theorem opAppend_ok {P : Program} {o : Oper} {ρ : Operand → AV} {H : Heap U} {base : Nat} {t : TypeId} {xo yo : Operand} {K : OOut U → Prop} (ho : o.op = .call { callee := .builtin .append, args := #[xo, yo], argTypes := #[t, t] })
    (h : opAppend P t (ρ xo) (ρ yo) H base K) : ∃ r, K r ∧ OpOk P o ρ H base r := by
  unfold opAppend at h
  split at h
  case h_2 => exact h.elim
  rename_i e hu
  split at h
  case h_2 => exact h.elim
  rename_i sz z by_ hsz hz hby
  obtain ⟨hzl, h⟩ := eqB_ok h
  obtain ⟨hb128, h⟩ := leB_ok h
  -- the run, out of what is owned and what is appended
  have go : ∀ (c : U.C) (l0 l : List (U.ty c)) (kill : List (Nat × Nat)), U.sz c = sz + 1 → l0.length + l.length ≤ 1099511627776 →
      (∀ π w y, Conc π H w → Rep π (ρ yo) y → ∃ ad cap news, y = .slice ad l.length cap ∧ RepE π U c l news ∧ (ad = none → l = []) ∧ (∀ a, ad = some a → ∀ j u, news[j]? = some u → w.cell? (a.add j) = some u) ∧ (∀ u ∈ news, u.oneCell' = true)) →
      (∀ π w v, Conc π H w → Rep π (ρ xo) v → ∃ xs, RepE π U c l0 xs ∧ w.ownsRow 0 e (U.sz c) v l0.length xs ∧ (∀ g, v.ownBlock = some g → ∃ id k b0 q, (id, k) ∈ kill ∧ H.at id k = some b0 ∧ b0.own = true ∧ π id k = some q ∧ b0.phys q ∧ q.blk = g)) →
      (∀ id k, (id, k) ∈ kill → ∃ b0, H.at id k = some b0 ∧ b0.own = true) →
      OpOk P o ρ H base (.val ⟨.gs base 0, [], kill, [.row c (l0 ++ l) e]⟩) := by
    intro c l0 l kill hcs hle hsrc hdst hkill rd n π w a hc hρ hf
    obtain ⟨ie, zv, hie, hiz, hzr, hzz⟩ := zeroAV_ok hz w
    have hzs : zv.cells.size = U.sz c := by have := (hzz π).length; simp at this; omega
    have his : ie.size = U.sz c := by unfold tsize at hsz; rw [hcs]; simpa [hie] using hsz
    have hb : ie.bytes ≤ 128 := by have : ie.bytes = by_ := by simpa [hie] using hby
                                   omega
    obtain ⟨ad, cap, news, hy, hn, hnone, hcell, hone⟩ := hsrc π w _ hc (hρ yo)
    obtain ⟨xs, hx, hown, hk⟩ := hdst π w _ hc (hρ xo)
    have hnl : news.length = l.length * U.sz c := by rw [hn.length]; exact flatMap_length _ _ (U.len c) l
    have hres : ∃ v' w', (Builtin.append_ #[t, t] o.type #[a.eval xo, a.eval yo]).run P w = .ok v' w' ∧ w'.ownsRow 0 e (U.sz c) v' (l0.length + l.length) (xs ++ news) ∧ w.grownBy w' (a.eval xo).ownBlock ∧
      (∀ g, v'.ownBlock = some g → w.heap.size ≤ g ∨ (a.eval xo).ownBlock = some g) := by
      cases ad with
      | none =>
        have hl := hnone rfl
        subst hl
        have hn0 : news = [] := List.eq_nil_of_length_eq_zero (by simpa using hnl)
        subst hn0
        refine ⟨a.eval xo, w, by rw [hy]; exact run_append_zero hu hie hown _ _, by simpa using hown, ⟨rfl, rfl, rfl, Nat.le_refl _, fun _ _ _ => rfl⟩, fun g hg => .inr hg⟩
      | some ad =>
        rw [hy]
        exact append_own w t o.type e ie zv (U.sz c) hu hie hiz his hzs (by omega) _ _ xs hown ad l.length cap news hnl (hcell ad rfl) hone hle hb
    obtain ⟨v', w', hrun, hown', hg, hnew⟩ := hres
    obtain ⟨πn, hpost⟩ := Post.appended (H := H) (base := base) (cut := l0.length + l.length) (by simpa using hf 0 0 (by simp)) hx hn (by simp) hown' hg hnew hk hkill
    refine wpIn_of_run (r := .ok (.value v') w') (by simp [ho]) ?_ ⟨v', πn, rfl, hpost⟩
    simp [execOp, ho, resolve, invoke, builtin, hrun]
  split at h
  · rename_i hx
    split at h
    case h_2 => exact h.elim
    rename_i c hc
    obtain ⟨hcs, h⟩ := eqB_ok h
    obtain ⟨l, ⟨hle, hK⟩, hsrc⟩ := srcL_ok h
    refine ⟨_, hK, ?_⟩
    have := go c [] l [] hcs (by simpa using hle) (fun π w y hc hr => hsrc π w y hc hr (fun z _ a ha => U.ones c z a ha)) (fun π w v hcc hr => ?_) (by simp)
    · simpa using this
    · rw [hx] at hr
      rw [rep_v hr]
      exact ⟨[], by simp [RepE, RepL], World.ownsRow_nil w 0 e _, fun g hg => by simp [Value.ownBlock] at hg⟩
  · rename_i id k hx
    obtain ⟨b, hb, h⟩ := Heap.get_at h
    cases b with
    | row c l0 e0 =>
      obtain ⟨hcs, h⟩ := eqB_ok h
      obtain ⟨rfl, h⟩ := eqB_ok h
      obtain ⟨l, ⟨hle, hK⟩, hsrc⟩ := srcL_ok h
      refine ⟨_, hK, go c l0 l [(id, k)] hcs hle (fun π w y hc hr => hsrc π w y hc hr (fun z _ a ha => U.ones c z a ha)) (fun π w v hcc hr => ?_) (fun id' k' hm => by simp at hm; obtain ⟨rfl, rfl⟩ := hm; exact ⟨_, hb, rfl⟩)⟩
      rw [hx] at hr
      simp only [Rep] at hr
      obtain ⟨p, hp, rfl⟩ := hr
      obtain ⟨p', hp', h0, h1, h2, h3, cs, h4, h5⟩ := hcc.ok id k _ hb
      rw [hp] at hp'; cases hp'
      refine ⟨cs, h4, h5, fun g hg => ⟨id, k, _, p, by simp, hb, rfl, hp, ?_, ?_⟩⟩
      · show p.sa ≠ none
        intro e; simp [Place.sv, e, Value.ownBlock] at hg
      · cases hsa : p.sa with
        | none => simp [Place.sv, hsa, Value.ownBlock] at hg
        | some ad => simp [Place.sv, hsa, Value.ownBlock] at hg; rw [← hg, h3 ad hsa]
    | ro c l => exact h.elim
    | cells vs t => exact h.elim
    | rc vs t => exact h.elim
    | map m l => exact h.elim
    | mrow o vs => exact h.elim
  · exact h.elim
end AE
