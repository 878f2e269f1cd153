/- An own symbolic executor: slices: literals, make, indexes, parts, append, len. No condition. -/
import Derived.Test.YtfhpdgmhdppggaaAe9
import Derived.Laws.OwnMore
namespace AE
open Go

variable {U : Uni}

def zerosA (z : List AV) (n : Nat) : List AV := (List.replicate n ()).flatMap fun _ => z

theorem madeCells_rep {π : Plc} {z : List AV} {zv : Array Value} (h : RepL π z zv.toList) (n : Nat) : RepL π (zerosA z n) (madeCells zv (n * zv.size)).toList := by
  have hz : z.length = zv.size := by rw [← h.length]; simp
  have hl : (zerosA z n).length = n * zv.size := by
    unfold zerosA; rw [flatMap_length _ zv.size (fun _ => hz)]; simp
  refine RepL.of_get (by rw [hl]; simp [madeCells]) fun j x hj => ?_
  have hjl : j < n * zv.size := by rw [← hl]; exact (List.getElem?_eq_some_iff.1 hj).1
  have hpos : 0 < zv.size := by
    rcases Nat.eq_zero_or_pos zv.size with e | e
    · rw [e] at hjl; simp at hjl
    · exact e
  have hmod : j % zv.size < zv.size := Nat.mod_lt _ hpos
  have hdiv : j / zv.size < n := Nat.div_lt_of_lt_mul (by rw [Nat.mul_comm]; exact hjl)
  have hg := flatMap_get (fun _ : Unit => z) zv.size (fun _ => hz) (List.replicate n ()) (j / zv.size) () (by simp [hdiv]) (j % zv.size) hmod
  have hdm : j / zv.size * zv.size + j % zv.size = j := by rw [Nat.mul_comm]; exact Nat.div_add_mod j zv.size
  rw [hdm] at hg
  have hz1 : z[j % zv.size]? = some x := by rw [← hg]; exact hj
  obtain ⟨y, hy, hr⟩ := h.get hz1
  refine ⟨y, ?_, hr⟩
  have hy' : zv[j % zv.size]? = some y := by simpa using hy
  have hy2 : zv[j % zv.size]! = y := by rw [getElem!_pos zv _ hmod]; rw [Array.getElem?_eq_getElem hmod] at hy'; simpa using hy'
  simp [madeCells, hjl, hy2]

/-- A row that a call has just made. -/
theorem Post.newRow {H : Heap U} {base : Nat} {π : Plc} {w w1 : World} {c : U.C} {l : List (U.ty c)} {e : TypeId} {cs : Array Value} {v : Value}
    (hw : w1 = w.alloc (.cells cs e)) (hf : π base 0 = none) (hv : RepE π U c l cs.toList) (hm : l.length ≤ maxLen)
    (hx : v = .slice (some ⟨w.heap.size, 0, none⟩) l.length l.length) :
    Post H base ⟨.gs base 0, [], [], [.row c l e]⟩ π (π.put base { blk := w.heap.size, off := 0, esz := U.sz c, sa := some ⟨w.heap.size, 0, none⟩, sn := l.length, sc := l.length }) w w1 v := by
  subst hw
  generalize hp : ({ blk := w.heap.size, off := 0, esz := U.sz c, sa := some ⟨w.heap.size, 0, none⟩, sn := l.length, sc := l.length } : Place) = p
  have hsub : Sub π (π.put base p) := Plc.sub_put hf
  have hlen : cs.toList.length = l.length * U.sz c := by rw [hv.length]; exact flatMap_length _ _ (U.len c) l
  refine ⟨by simp only [Rep]; exact ⟨p, Plc.put_same _ _ _, by rw [hx, ← hp]⟩, hsub, fun id k h => ?_, fun j b hb => ?_, fun i j b b' p p' h h' hne => ?_, fun id k b h => by simp at h, fun id k h => by simp at h, Keeps.alloc _ w _⟩
  · have h' : id < base ∨ base + 1 ≤ id := h
    have : ¬ (id = base ∧ k = 0) := by omega
    simp [Plc.put, this]
  · cases j with
    | zero =>
      simp at hb; subst hb
      refine ⟨rfl, p, Plc.put_same _ _ _, ?_, fun _ => .inl (by rw [← hp]; exact Nat.le_refl _)⟩
      rw [← hp]
      refine ⟨rfl, rfl, rfl, fun a ha => by simp at ha; exact ha.symm, cs.toList, RepL.mono (hp ▸ hsub) _ _ hv, ?_⟩
      exact World.ownsRow_lit (base := 0) (e := e) (size := U.sz c) w cs l.length (Nat.zero_le _) hm (by simpa using hlen)
    | succ j => simp at hb
  · have hi : i < 1 := by rcases Nat.lt_or_ge i 1 with h1 | h1; exact h1; simp [List.getElem?_eq_none (by simpa using h1 : [AB1.row (U := U) c l e].length ≤ i)] at h
    have hj : j < 1 := by rcases Nat.lt_or_ge j 1 with h1 | h1; exact h1; simp [List.getElem?_eq_none (by simpa using h1 : [AB1.row (U := U) c l e].length ≤ j)] at h'
    omega

def decP (c : U.C) : List (Nat × AV) → List (U.ty c)
  | [] => []
  | p :: l => U.dec c p.2.cells :: decP c l
theorem decP_eq (c : U.C) : ∀ (l : List (Nat × AV)), decP c l = l.map fun p => U.dec c p.2.cells
  | [] => rfl
  | p :: l => by simp [decP, decP_eq c l]

def opBuildSlice (P : Program) (t : TypeId) (n : Nat) (parts : List (Nat × AV)) (base : Nat) (K : OOut U → Prop) : Prop :=
  match P.underlying t with
  | some (.slice e) => match U.code e, tsize P e, zeroAV P e with
    | some c, some (sz + 1), some z =>
      leB (n * (sz + 1)) 16777216 (eqB (sz + 1) z.length (
        (n = (decP c parts).length ∧ fillA (fun i => some (i * (sz + 1), sz + 1)) (zerosA z n) parts = some ((decP c parts).flatMap (U.enc c))) ∧
        K (.val ⟨.gs base 0, [], [], [.row c (decP c parts) e]⟩)))
    | _, _, _ => False
  | _ => False

theorem opBuildSlice_ok {P : Program} {o : Oper} {ρ : Operand → AV} {H : Heap U} {base : Nat} {t : TypeId} {n : Nat} {ps : Array (Nat × Operand)} {K : OOut U → Prop} (ho : o.op = .buildSlice t n ps)
    (h : opBuildSlice P t n (ps.toList.map fun (i, x) => (i, (ρ x).nrm)) base K) : ∃ r, K r ∧ OpOk P o ρ H base r := by
  unfold opBuildSlice at h
  split at h
  case h_2 => exact h.elim
  rename_i e hu
  split at h
  case h_2 => exact h.elim
  rename_i c sz z hc hsz hz
  obtain ⟨h24, h⟩ := leB_ok h
  obtain ⟨hzl, h⟩ := eqB_ok h
  rw [decP_eq] at h
  obtain ⟨⟨hn, hfill⟩, hK⟩ := h
  refine ⟨_, hK, fun rd nn π w a hcc hρ hf => ?_⟩
  obtain ⟨ie, zv, hie, hiz, hzr, hzz⟩ := zeroAV_ok hz w
  have hzs : zv.cells.size = sz + 1 := by have := (hzz π).length; simp at this; omega
  have his : ie.size = sz + 1 := by unfold tsize at hsz; simpa [hie] using hsz
  have hmade := madeCells_rep (hzz π) n
  rw [hzs] at hmade
  obtain ⟨h1, h2⟩ := RepL.parts (ρ := fun x => (ρ x).nrm) (fun x => (hρ x).nrm) ps.toList
  obtain ⟨vs, hfl, hv⟩ := fillA_ok (π := π) hfill h1 h2 hmade
  have hlen : vs.toList.length = n * (sz + 1) ∨ True := .inr trivial
  refine wpIn_of_run (r := .ok (.value (.slice (some ⟨w.heap.size, 0, none⟩) n n)) (w.alloc (.cells vs e))) (by simp [ho]) ?_ ?_
  · have hrun : (Instr.buildSlice t n (ps.map fun (i, x) => (i, a.eval x))).run P w = .ok (.slice (some ⟨w.heap.size, 0, none⟩) n n) (w.alloc (.cells vs e)) := by
      by_cases h0 : n * ie.size = 0
      · have hn0 : n = 0 := by rw [his] at h0; rcases Nat.mul_eq_zero.1 h0 with e | e; exact e; omega
        subst hn0
        have hps : ps = #[] := by
          have h3 := hn.symm
          simp at h3
          exact h3
        subst hps
        have hvs : vs = #[] := by
          simp [Instr.fill, madeCells, Array.range_zero'] at hfl
          exact hfl
        subst hvs
        simp [Instr.buildSlice, run_und hu, Go.sizeOf, typeInfo, hie, Instr.fill, newRow, Array.range_zero']
      · have hlt : ¬ n * ie.size > 2 ^ 24 := by rw [his]; simp; omega
        refine run_buildSlice w t e n _ vs ie zv hu hie hiz hlt h0 ?_
        rw [Array.toList_map, his]
        exact hfl
    simp only [execOp, ho, Sem.run_bind, hrun, Result.andThen_ok, Sem.run_pure]
  · refine ⟨_, _, rfl, Post.newRow (c := c) (e := e) rfl (by simpa using hf 0 0 (by simp)) hv ?_ (by rw [← hn])⟩
    rw [← hn]; have : n * 1 ≤ n * (sz + 1) := Nat.mul_le_mul_left _ (by omega)
    unfold maxLen; omega
end AE
