/- An own symbolic executor: stores. No condition. -/
import Derived.Test.YtfhpdgmhdppggaaAe4
namespace AE
open Go

variable {U : Uni}

theorem splice_length {α : Type} {l xs : List α} {o : Nat} (h : o + xs.length ≤ l.length) : (splice l o xs).length = l.length := by
  unfold splice; simp; omega

theorem splice_append_right {α : Type} (a b xs : List α) (o : Nat) : splice (a ++ b) (a.length + o) xs = a ++ splice b o xs := by
  unfold splice
  rw [List.take_append, List.drop_append]
  have h1 : a.take (a.length + o) = a := List.take_of_length_le (by omega)
  have h2 : a.drop (a.length + o + xs.length) = [] := List.drop_eq_nil_of_le (by omega)
  rw [h1, h2]
  have e1 : a.length + o - a.length = o := by omega
  have e2 : a.length + o + xs.length - a.length = o + xs.length := by omega
  rw [e1, e2]; simp [List.append_assoc]

theorem splice_append_left {α : Type} (a b xs : List α) (o : Nat) (h : o + xs.length ≤ a.length) : splice (a ++ b) o xs = splice a o xs ++ b := by
  unfold splice
  rw [List.take_append, List.drop_append]
  have e1 : o - a.length = 0 := by omega
  have e2 : o + xs.length - a.length = 0 := by omega
  rw [e1, e2]; simp [List.append_assoc]

theorem flatMap_set {α β : Type} (f : α → List β) (sz : Nat) (hf : ∀ x, (f x).length = sz) : ∀ (l : List α) (i : Nat) (x y : α) (fo : Nat) (xs : List β), l[i]? = some x → fo + xs.length ≤ sz → f y = splice (f x) fo xs →
    (l.set i y).flatMap f = splice (l.flatMap f) (i * sz + fo) xs
  | [], i, x, y, fo, xs, h, _, _ => by simp at h
  | z :: l, 0, x, y, fo, xs, h, hl, he => by
    simp at h; subst h
    rw [List.set_cons_zero, List.flatMap_cons, List.flatMap_cons, he, Nat.zero_mul, Nat.zero_add, splice_append_left _ _ _ _ (by rw [hf]; exact hl)]
  | z :: l, i + 1, x, y, fo, xs, h, hl, he => by
    have h' : l[i]? = some x := by simpa using h
    have e : (i + 1) * sz + fo = (f z).length + (i * sz + fo) := by rw [hf, Nat.add_mul]; omega
    rw [List.set_cons_succ, List.flatMap_cons, List.flatMap_cons, e, splice_append_right, flatMap_set f sz hf l i x y fo xs h' hl he]

def leB (a b : Nat) (K : Prop) : Prop :=
  match Nat.decLe a b with
  | .isTrue _ => K
  | .isFalse _ => False
theorem leB_ok {a b : Nat} {K : Prop} (h : leB a b K) : a ≤ b ∧ K := by
  unfold leB at h; split at h
  · rename_i e _; exact ⟨e, h⟩
  · exact h.elim
def eqB (a b : Nat) (K : Prop) : Prop :=
  match Nat.decEq a b with
  | .isTrue _ => K
  | .isFalse _ => False
theorem eqB_ok {a b : Nat} {K : Prop} (h : eqB a b K) : a = b ∧ K := by
  unfold eqB at h; split at h
  · rename_i e _; exact ⟨e, h⟩
  · exact h.elim
def isB (a : Bool) (K : Prop) : Prop :=
  match a with
  | true => K
  | false => False
theorem isB_ok {a : Bool} {K : Prop} (h : isB a K) : a = true ∧ K := by
  unfold isB at h; split at h
  · exact ⟨rfl, h⟩
  · exact h.elim

def opStore (P : Program) (t : TypeId) (x y : AV) (H : Heap U) (K : OOut U → Prop) : Prop :=
  match x with
  | .ptr id k i fo =>
    match tsize P t with
    | some n => isB (y.plain && y.cells.all AV.one) (eqB y.cells.length n (H.get id k fun
      | .cells vs te => match i with
        | 0 => leB (fo + y.cells.length) vs.length (K (.val ⟨.junk, [(id, k, .cells (splice vs fo y.cells) te)], [], []⟩))
        | _ + 1 => False
      | .row c l te => leB (fo + y.nrm.cells.length) (U.sz c) (i < l.length ∧
          U.enc c (U.dec c (splice (U.enc c (l.getD i (U.df c))) fo y.nrm.cells)) = splice (U.enc c (l.getD i (U.df c))) fo y.nrm.cells ∧
          K (.val ⟨.junk, [(id, k, .row c (l.set i (U.dec c (splice (U.enc c (l.getD i (U.df c))) fo y.nrm.cells))) te)], [], []⟩))
      | _ => False))
    | none => False
  | _ => False

theorem AV.nrm_plain {x : AV} (h : x.plain = true) : x.nrm.plain = true := by
  unfold AV.nrm
  split
  · rfl
  · rfl
  · cases x <;> first | exact h | rfl
theorem AV.nrm_cells_length (x : AV) : x.nrm.cells.length = x.cells.length := by
  unfold AV.nrm
  split
  · simp [AV.cells]
  · simp [AV.cells]
  · rename_i h1 h2
    cases x with
    | tt => rfl
    | ff => rfl
    | agg xs => exact absurd rfl (h1 xs)
    | v x => rfl
    | _ => rfl

theorem Post.turn {H : Heap U} {base id k : Nat} {π : Plc} {w w' : World} {p : Place} {b0 b : AB1 U} {v : Value} {g : Nat}
    (hb0 : H.at id k = some b0) (ho : b0.own = true) (ho' : b.own = true) (hp : π id k = some p) (hb : BlkOk π w' p b) (hphys : b.phys p → b0.phys p) (hphys0 : b0.phys p)
    (hk : Keeps (fun n => n = g) w w') (hg : g = p.blk) : Post H base ⟨.junk, [(id, k, b)], [], []⟩ π π w w' v := by
  refine ⟨by simp [Rep], Sub.refl π, fun _ _ _ => rfl, fun j b hb => by simp at hb, fun i j b b' p p' h => by simp at h, fun id' k' b' h => ?_, fun id k h => by simp at h, ?_⟩
  · simp at h; obtain ⟨rfl, rfl, rfl⟩ := h
    exact ⟨b0, p, hb0, ho, ho', hp, hb, hphys⟩
  · refine hk.weaken fun n _ hn => ⟨id, k, p, b0, .inl ⟨b, by simp⟩, hb0, hphys0, hp, by rw [hn, hg]⟩

theorem Keeps.setRow (w : World) (g : Nat) (cs : Array Value) : Keeps (fun n => n = g) w (w.setRow g cs) :=
  ⟨rfl, rfl, rfl, by simp [World.setRow], fun k _ hk => setRow_other w g k cs hk⟩

theorem opStore_ok {P : Program} {o : Oper} {ρ : Operand → AV} {H : Heap U} {base : Nat} {t : TypeId} {x y : Operand} {K : OOut U → Prop} (ho : o.op = .store t x y) (h : opStore P t (ρ x) (ρ y) H K) : ∃ r, K r ∧ OpOk P o ρ H base r := by
  unfold opStore at h
  split at h
  case h_2 => exact h.elim
  rename_i id k i fo hx
  split at h
  case h_2 => exact h.elim
  rename_i n hn
  obtain ⟨hy, h⟩ := isB_ok h
  simp only [Bool.and_eq_true] at hy
  obtain ⟨hyp, hy1⟩ := hy
  obtain ⟨hlen, h⟩ := eqB_ok h
  obtain ⟨b, hb, h⟩ := Heap.get_at h
  have run : ∀ (π : Plc) (w : World) (a : Act) (cur : Array Value) (te : TypeId) (p : Place), π id k = some p → (∀ x, Rep π (ρ x) (a.eval x)) → w.heap[p.blk]? = some (.cells cur te (0, 0)) →
      p.off + i * p.esz + fo + n ≤ cur.size →
      (execOp a.eval o).run P w = .ok .skip (w.setRow p.blk (splice cur.toList (p.off + i * p.esz + fo) (a.eval y).cells.toList).toArray) ∧ RepL π (ρ y).cells (a.eval y).cells.toList ∧ RepL π (ρ y).nrm.cells (a.eval y).cells.toList := by
    intro π w a cur te p hp hρ hcur hfit
    have hv := hρ x
    rw [hx] at hv
    simp only [Rep] at hv
    obtain ⟨p', hp', hv⟩ := hv
    rw [hp] at hp'; cases hp'
    have hr := (hρ y).cells hyp
    have hrn := (hρ y).nrm.cells (AV.nrm_plain hyp)
    have hl : (a.eval y).cells.toList.length = n := by rw [hr.length, hlen]
    have hl' : (a.eval y).cells.size = n := by simpa using hl
    have h1 : ∀ v ∈ (a.eval y).cells.toList, v.oneCell' = true := by
      intro v hv'
      obtain ⟨j, hj⟩ := List.getElem?_of_mem hv'
      have hjl : j < (ρ y).cells.length := by have := (List.getElem?_eq_some_iff.1 hj).1; omega
      obtain ⟨z, hz, hrz⟩ := hr.get (List.getElem?_eq_getElem hjl)
      rw [hj] at hz; cases hz
      exact hrz.one (List.all_eq_true.1 hy1 _ (List.getElem_mem hjl))
    have hst := run_storeCells_at P p.blk (p.off + i * p.esz + fo) te (a.eval y).cells.toList 0 cur w hcur (by omega) h1
    refine ⟨?_, hr, hrn⟩
    simp only [Nat.add_zero] at hst
    simp [execOp, ho, Instr.storeAt, hv, Instr.sureAddr, storeVar, run_size hn, hl', hst, splice]
  cases b with
  | cells vs te =>
    simp only at h
    split at h
    case h_2 => exact h.elim
    obtain ⟨hfo, hK⟩ := leB_ok h
    refine ⟨_, hK, fun rd nn π w a hc hρ _ => ?_⟩
    obtain ⟨p, hp, h0, cs, hcs, hrep⟩ := hc.ok id k _ hb
    have hsz : cs.size = vs.length := by rw [← hrep.length]; simp
    obtain ⟨hrun, hr, _⟩ := run π w a cs te p hp hρ hcs (by rw [h0]; omega)
    refine wpIn_of_run (by simp [ho]) hrun ⟨undef, π, rfl, ?_⟩
    refine Post.turn hb rfl rfl hp ⟨h0, _, setRow_heap w p.blk cs _ te _ hcs, ?_⟩ (fun _ => trivial) trivial (Keeps.setRow _ _ _) rfl
    rw [h0]
    simpa using hrep.splice fo hr
  | row c l te =>
    obtain ⟨hfo0, hi, henc, hK⟩ := leB_ok h
    have hnl0 : (ρ y).nrm.cells.length = n := by rw [AV.nrm_cells_length, hlen]
    have hfo : fo + n ≤ U.sz c := by rw [hnl0] at hfo0; exact hfo0
    refine ⟨_, hK, fun rd nn π w a hc hρ _ => ?_⟩
    obtain ⟨p, hp, hok⟩ := hc.ok id k _ hb
    obtain ⟨h0, h1, h2, h3, cs, h4, h5⟩ := hok
    rcases h5.2 with ⟨_, hn0⟩ | ⟨g, cap, cur, e, hbg, hg, hnc, hcm, hcs, htake⟩
    · omega
    have hsa : p.sa = some ⟨g, 0, none⟩ := by simp only [Place.sv, Value.slice.injEq] at e; exact e.1
    have hsc : p.sc = cap := by simp only [Place.sv, Value.slice.injEq] at e; exact e.2.2
    have hg' : g = p.blk := by simpa using congrArg Addr.block (h3 _ hsa)
    subst hg'
    have hfl : i * U.sz c + fo + n ≤ l.length * U.sz c := by
      have : (i + 1) * U.sz c ≤ l.length * U.sz c := Nat.mul_le_mul_right _ hi
      rw [Nat.add_mul] at this; omega
    have hcap : l.length * U.sz c ≤ cur.size := by rw [hcs]; exact Nat.mul_le_mul_right _ hnc
    obtain ⟨hrun, hr, hrn⟩ := run π w a cur te p hp hρ hg (by rw [h0, h1]; omega)
    refine wpIn_of_run (by simp [ho]) hrun ⟨undef, π, rfl, ?_⟩
    have hlx : l[i]? = some (l.getD i (U.df c)) := by rw [List.getD_eq_getElem?_getD, List.getElem?_eq_getElem hi]; simp
    have hfm := flatMap_set (U.enc c) (U.sz c) (U.len c) l i _ (U.dec c (splice (U.enc c (l.getD i (U.df c))) fo (ρ y).nrm.cells)) fo (ρ y).nrm.cells hlx hfo0 henc
    have hcsl : cs.length = l.length * U.sz c := h5.1
    have hyl : (a.eval y).cells.toList.length = n := by rw [hr.length, hlen]
    have hnl : (ρ y).nrm.cells.length = n := by rw [← hrn.length, hyl]
    refine Post.turn hb rfl rfl hp ?_ (fun h => h) (by show p.sa ≠ none; rw [hsa]; simp) (Keeps.setRow _ _ _) rfl
    refine ⟨h0, h1, by rw [h2]; simp, h3, splice cs (i * U.sz c + fo) (a.eval y).cells.toList, ?_, ?_⟩
    · unfold RepE; rw [hfm]; exact RepL.splice h4 _ hrn
    · refine ⟨by rw [splice_length (by omega)]; simpa using hcsl, .inr ⟨p.blk, cap, _, ?_, Nat.zero_le _, setRow_heap w p.blk cur _ te _ hg, by simpa using hnc, hcm, ?_, ?_⟩⟩
      · rw [e]; simp
      · rw [h0, h1]; simp only [List.size_toArray]; rw [splice_length (by rw [hyl, Array.length_toList]; omega)]; simpa using hcs
      · rw [h0, h1, Nat.zero_add]
        simp only [List.length_set]
        have hsplit : cur.toList = cs ++ cur.toList.drop (l.length * U.sz c) := by rw [← htake]; exact (List.take_append_drop _ _).symm
        rw [hsplit, splice_append_left _ _ _ _ (by omega), List.take_left' (by rw [splice_length (by omega)]; exact hcsl)]
  | rc vs t => exact h.elim
  | ro c l => exact h.elim
  | map m l => exact h.elim
  | mrow o vs => exact h.elim
end AE
