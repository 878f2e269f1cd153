/- An own symbolic executor: literals of structs, arrays and slices, indexes. No condition. -/
import Derived.Test.YtfhpdgmhdppggaaAe8
namespace AE
open Go

variable {U : Uni}

/-! ### literals -/
def fillA (place : Nat → Option (Nat × Nat)) (cells : List AV) : List (Nat × AV) → Option (List AV)
  | [] => some cells
  | (i, x) :: rest =>
    match place i with
    | none => none
    | some (off, size) => match x.plain with
      | false => none
      | true => match Nat.decEq x.cells.length size, Nat.decLe (off + x.cells.length) cells.length with
        | .isTrue _, .isTrue _ => fillA place (splice cells off x.cells) rest
        | _, _ => none

theorem splice_cons {α : Type} (l : List α) (o : Nat) (x : α) (xs : List α) (h : o < l.length) : splice l o (x :: xs) = splice (l.set o x) (o + 1) xs := by
  unfold splice
  apply List.ext_getElem?
  intro j
  simp only [List.getElem?_append, List.length_append, List.length_take, List.length_cons, List.length_set]
  by_cases h1 : j < o
  · have a1 : j < min o l.length + (xs.length + 1) := by omega
    have a2 : j < min o l.length := by omega
    have a3 : j < min (o + 1) l.length + xs.length := by omega
    have a4 : j < min (o + 1) l.length := by omega
    simp [a1, a2, a3, a4, List.getElem?_take, h1, show j < o + 1 by omega, List.getElem?_set, show ¬ o = j by omega]
  · by_cases h2 : j = o
    · subst h2
      have a1 : j < min j l.length + (xs.length + 1) := by omega
      have a2 : ¬ j < min j l.length := by omega
      have a3 : j < min (j + 1) l.length + xs.length := by omega
      have a4 : j < min (j + 1) l.length := by omega
      simp [a1, a2, a3, a4, List.getElem?_take, List.getElem?_set, h, show j - min j l.length = 0 by omega]
    · by_cases h3 : j < o + (xs.length + 1)
      · have a1 : j < min o l.length + (xs.length + 1) := by omega
        have a2 : ¬ j < min o l.length := by omega
        have a3 : j < min (o + 1) l.length + xs.length := by omega
        have a4 : ¬ j < min (o + 1) l.length := by omega
        have e1 : j - min o l.length = (j - min (o + 1) l.length) + 1 := by omega
        simp [a1, a2, a3, a4, e1]
      · have a1 : ¬ j < min o l.length + (xs.length + 1) := by omega
        have a3 : ¬ j < min (o + 1) l.length + xs.length := by omega
        simp only [a1, a3, if_false, List.getElem?_drop]
        rw [List.getElem?_set, if_neg (by omega)]
        congr 1; omega

theorem foldl_set (off : Nat) : ∀ (vs : List Value) (n : Nat) (cs : Array Value), off + n + vs.length ≤ cs.size →
    ((vs.zipIdx n).foldl (fun cs (x : Value × Nat) => cs.setIfInBounds (off + x.2) x.1) cs).toList = splice cs.toList (off + n) vs
  | [], n, cs, _ => by simp [splice]
  | v :: vs, n, cs, h => by
    simp only [List.zipIdx_cons, List.foldl_cons]
    rw [foldl_set off vs (n + 1) _ (by simp at h ⊢; omega)]
    rw [splice_cons _ _ _ _ (by simp at h ⊢; omega), Array.toList_setIfInBounds, Nat.add_assoc]

theorem fillA_ok {place : Nat → Option (Nat × Nat)} {π : Plc} : ∀ {parts : List (Nat × AV)} {vparts : List (Nat × Value)} {cells out : List AV} {cs : Array Value},
    fillA place cells parts = some out → parts.map (·.1) = vparts.map (·.1) → RepL π (parts.map (·.2)) (vparts.map (·.2)) → RepL π cells cs.toList →
    ∃ vs, Instr.fill place cs vparts = some vs ∧ RepL π out vs.toList
  | [], vparts, cells, out, cs, h, hi, _, hc => by
    simp at hi; subst hi
    simp [fillA] at h; subst h
    exact ⟨cs, rfl, hc⟩
  | (i, x) :: rest, [], cells, out, cs, h, hi, _, hc => by simp at hi
  | (i, x) :: rest, (i', v) :: vrest, cells, out, cs, h, hi, hr, hc => by
    simp at hi
    obtain ⟨rfl, hi⟩ := hi
    simp only [List.map_cons, RepL] at hr
    obtain ⟨z, zs, e, hx, hr⟩ := hr
    simp at e
    obtain ⟨rfl, rfl⟩ := e
    unfold fillA at h
    split at h
    case h_1 => cases h
    rename_i off size hp
    split at h
    case h_1 => cases h
    rename_i hpl
    split at h
    case h_2 => cases h
    rename_i hs hle _ _
    have hxc := hx.cells hpl
    have hlen : v.cells.toList.length = x.cells.length := hxc.length
    have hlen' : v.cells.size = x.cells.length := by simpa using hlen
    have hcl : cs.size = cells.length := by rw [← hc.length]; simp
    have hfold := foldl_set off v.cells.toList 0 cs (by rw [hlen, hcl]; omega)
    obtain ⟨vs, hf, hv⟩ := fillA_ok (cs := ((v.cells.toList.zipIdx 0).foldl (fun cs (x : Value × Nat) => cs.setIfInBounds (off + x.2) x.1) cs)) h hi hr (by rw [hfold, Nat.add_zero]; exact hc.splice off hxc)
    refine ⟨vs, ?_, hv⟩
    unfold Instr.fill
    have c1 : ¬ (v.cells.size ≠ size ∨ off + v.cells.size > cs.size) := by omega
    simp only [hp]
    rw [if_neg (by simpa using c1)]
    have : v.cells.zipIdx.foldl (fun cs (c, j) => cs.setIfInBounds (off + j) c) cs = (v.cells.toList.zipIdx 0).foldl (fun cs (x : Value × Nat) => cs.setIfInBounds (off + x.2) x.1) cs := by
      rw [← Array.foldl_toList, Array.toList_zipIdx]
    rw [this]; exact hf

def placesA (P : Program) : List Field → Option (List (Nat × Nat))
  | [] => some []
  | f :: fs => match tsize P f.type, placesA P fs with
    | some n, some l => some ((f.offset, n) :: l)
    | _, _ => none

theorem placesA_ok {P : Program} {w : World} : ∀ {fs : List Field} {l : List (Nat × Nat)}, placesA P fs = some l → (fs.mapM (m := Sem) (fun f : Field => do Pure.pure (f.offset, ← Go.sizeOf f.type))).run P w = .ok l w
  | [], l, h => by simp [placesA] at h; subst h; simp
  | f :: fs, l, h => by
    unfold placesA at h
    split at h
    case h_2 => cases h
    rename_i n l' hn hl
    simp at h; subst h
    have := placesA_ok (w := w) hl
    simp only [List.mapM_cons, Sem.run_bind, run_size hn, Result.andThen_ok, Sem.run_pure, this]

def opBuild (P : Program) (t : TypeId) (parts : List (Nat × AV)) (K : AV → Prop) : Prop :=
  match zeroAV P t, P.underlying t with
  | some z, some (.struct fs) => match placesA P fs.toList with
    | some pl => match fillA (nth pl) z parts with
      | some cs => K (.agg cs)
      | none => False
    | none => False
  | some z, some (.array _ e) => match tsize P e with
    | some n => match fillA (fun i => some (i * n, n)) z parts with
      | some cs => K (.agg cs)
      | none => False
    | none => False
  | _, _ => False

theorem zeroAV_ok {P : Program} {t : TypeId} {vs : List AV} (h : zeroAV P t = some vs) (w : World) : ∃ i z, P.info? t = some i ∧ i.zero = some z ∧ (zeroValue t).run P w = .ok z w ∧ ∀ π, RepL π vs z.cells.toList := by
  unfold zeroAV at h
  cases hi : P.info? t with
  | none => simp [hi] at h
  | some i =>
    cases hz : i.zero with
    | none => simp [hi, hz] at h
    | some z =>
      simp [hi, hz] at h; subst h
      exact ⟨i, z, rfl, hz, by simp [zeroValue, typeInfo, hi, hz], fun π => constAV_cells π z⟩

theorem RepL.parts {π : Plc} {ρ : Operand → AV} {a : Act} (h : ∀ x, Rep π (ρ x) (a.eval x)) (ps : List (Nat × Operand)) :
    (ps.map fun (i, x) => (i, ρ x)).map (·.1) = (ps.map fun (i, x) => (i, a.eval x)).map (·.1) ∧ RepL π ((ps.map fun (i, x) => (i, ρ x)).map (·.2)) ((ps.map fun (i, x) => (i, a.eval x)).map (·.2)) := by
  constructor
  · simp
  · simp only [List.map_map]; induction ps with
    | nil => exact RepL.nil π
    | cons p ps ih => exact RepL.cons (h p.2) ih

theorem opBuild_ok {P : Program} {o : Oper} {ρ : Operand → AV} {H : Heap U} {base : Nat} {t : TypeId} {ps : Array (Nat × Operand)} {K : OOut U → Prop} (ho : o.op = .build t ps)
    (h : opBuild P t (ps.toList.map fun (i, x) => (i, ρ x)) fun x => K (.val ⟨x, [], [], []⟩)) : ∃ r, K r ∧ OpOk P o ρ H base r := by
  unfold opBuild at h
  split at h
  · rename_i z fs hz hu
    split at h
    case h_2 => exact h.elim
    rename_i pl hpl
    split at h
    case h_2 => exact h.elim
    rename_i cs hcs
    refine OpOk.pureV h (by simp [ho]) fun π w a hc hρ => ?_
    obtain ⟨i, zv, _, _, hzr, hzz⟩ := zeroAV_ok hz w
    obtain ⟨h1, h2⟩ := RepL.parts hρ ps.toList
    obtain ⟨vs, hf, hv⟩ := fillA_ok (π := π) (cs := zv.cells) hcs h1 h2 (hzz π)
    refine ⟨.agg vs, ?_, by simp only [Rep]; exact ⟨_, rfl, hv⟩⟩
    have hpl' := placesA_ok (w := w) hpl
    have hplA : (fs.mapM (m := Sem) (fun f => do Pure.pure (f.offset, ← Go.sizeOf f.type))).run P w = .ok pl.toArray w := by
      rw [Array.mapM_eq_mapM_toList]; simp only [Sem.run_map, hpl', Result.andThen_ok]
    have hfun : (fun i => pl.toArray[i]?) = nth pl := by funext i; rw [nth_eq]; simp
    have hrun : (Instr.build t (ps.map fun (i, x) => (i, a.eval x))).run P w = .ok (.agg vs) w := by
      simp only [Instr.build, Sem.run_bind, hzr, Result.andThen_ok, run_und hu, hplA, Array.toList_map, hfun, hf]
      rfl
    simp only [execOp, ho, Sem.run_bind, hrun, Result.andThen_ok, Sem.run_pure]
  · rename_i z n e hz hu
    split at h
    case h_2 => exact h.elim
    rename_i sz hsz
    split at h
    case h_2 => exact h.elim
    rename_i cs hcs
    refine OpOk.pureV h (by simp [ho]) fun π w a hc hρ => ?_
    obtain ⟨i, zv, _, _, hzr, hzz⟩ := zeroAV_ok hz w
    obtain ⟨h1, h2⟩ := RepL.parts hρ ps.toList
    obtain ⟨vs, hf, hv⟩ := fillA_ok (π := π) (cs := zv.cells) hcs h1 h2 (hzz π)
    refine ⟨.agg vs, ?_, by simp only [Rep]; exact ⟨_, rfl, hv⟩⟩
    have hrun : (Instr.build t (ps.map fun (i, x) => (i, a.eval x))).run P w = .ok (.agg vs) w := by
      simp only [Instr.build, Sem.run_bind, hzr, Result.andThen_ok, run_und hu, run_size hsz, Array.toList_map, hf]
      rfl
    simp only [execOp, ho, Sem.run_bind, hrun, Result.andThen_ok, Sem.run_pure]
  · exact h.elim

end AE
