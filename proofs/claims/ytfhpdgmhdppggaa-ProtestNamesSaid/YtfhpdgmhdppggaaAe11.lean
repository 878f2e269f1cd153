/- An own symbolic executor: slices: make, indexes, parts, append, len; least and greatest. No condition. -/
import Derived.Test.YtfhpdgmhdppggaaAe10
namespace AE
open Go

variable {U : Uni}

def opMakeSlice (P : Program) (t : TypeId) (x y : AV) (base : Nat) (K : OOut U → Prop) : Prop :=
  match x, y with
  | .v (.int _ n), .v (.int _ m) => match P.underlying t with
    | some (.slice e) => match U.code e, tsize P e, zeroAV P e, (P.info? e).map (·.bytes) with
      | some c, some (sz + 1), some z, some by_ =>
        eqB (U.sz c) z.length (eqB (sz + 1) z.length (
          ((n = m ∧ 0 ≤ n ∧ n ≤ 1099511627776 ∧ (by_ : Int) * n ≤ 281474976710656) ∧ U.enc c (U.dec c (z.map AV.nrm1)) = z.map AV.nrm1) ∧
          K (.val ⟨.gs base 0, [], [], [.row c (List.replicate n.toNat (U.dec c (z.map AV.nrm1))) e]⟩)))
      | _, _, _, _ => False
    | _ => False
  | _, _ => False

theorem zerosA_enc {c : U.C} {z : List AV} (h : U.enc c (U.dec c z) = z) (n : Nat) : (List.replicate n (U.dec c z)).flatMap (U.enc c) = zerosA z n := by
  unfold zerosA
  induction n with
  | zero => rfl
  | succ n ih => simp only [List.replicate_succ, List.flatMap_cons, ih, h]

theorem opMakeSlice_ok {P : Program} {o : Oper} {ρ : Operand → AV} {H : Heap U} {base : Nat} {t : TypeId} {xo yo : Operand} {K : OOut U → Prop} (ho : o.op = .makeSlice t xo yo)
    (h : opMakeSlice P t (ρ xo) (ρ yo) base K) : ∃ r, K r ∧ OpOk P o ρ H base r := by
  unfold opMakeSlice at h
  split at h
  case h_2 => exact h.elim
  rename_i kx n ky m hx hy
  split at h
  case h_2 => exact h.elim
  rename_i e hu
  split at h
  case h_2 => exact h.elim
  rename_i c sz z by_ hc hsz hz hby
  obtain ⟨hz1, h⟩ := eqB_ok h
  obtain ⟨hz2, ⟨⟨rfl, h0, h40, hbytes⟩, henc⟩, hK⟩ := eqB_ok h
  refine ⟨_, hK, fun rd nn π w a hcc hρ hf => ?_⟩
  obtain ⟨ie, zv, hie, hiz, hzr, hzz⟩ := zeroAV_ok hz w
  have hzs : zv.cells.size = z.length := by have := (hzz π).length; simpa using this
  have his : ie.size = sz + 1 := by unfold tsize at hsz; simpa [hie] using hsz
  have hb : ie.bytes = by_ := by simpa [hie] using hby
  have hmade := madeCells_rep (hzz π).nrm1 n.toNat
  rw [hzs] at hmade
  have hrun2 := run_make (P := P) w t e ie zv hu hie hiz kx ky n n h0 (Int.le_refl _) (by rw [hb]; exact hbytes) (by omega)
  refine wpIn_of_run (r := .ok (.value (.slice (some ⟨w.heap.size, 0, none⟩) n.toNat n.toNat)) (w.alloc (.cells (madeCells zv.cells (n.toNat * ie.size)) e))) (by simp [ho]) ?_ ?_
  · simp only [execOp, ho, rep_v (hx ▸ hρ xo), rep_v (hy ▸ hρ yo), Sem.run_bind, hrun2, Result.andThen_ok, Sem.run_pure]
  · refine ⟨_, _, rfl, Post.newRow (c := c) (e := e) rfl (by simpa using hf 0 0 (by simp)) ?_ ?_ (by simp)⟩
    · unfold RepE; rw [zerosA_enc henc, his, hz2]; exact hmade
    · simp; unfold maxLen; omega

theorem BlkOk.cap {π : Plc} {w : World} {p : Place} {c : U.C} {l : List (U.ty c)} {t : TypeId} (hok : BlkOk π w p (.row c l t)) : l.length ≤ p.sc := by
  obtain ⟨h0, h1, h2, h3, cs, h4, h5⟩ := hok
  rcases h5.2 with ⟨_, hn⟩ | ⟨g, cap, cur, e, _, _, hnc, _⟩
  · omega
  · simp only [Place.sv, Value.slice.injEq] at e; omega

/-! ### a slice's view -/
def view (H : Heap U) (x : AV) (K : (c : U.C) → List (U.ty c) → Nat → Nat → Nat → Nat → Prop) : Prop :=
  match x with
  | .sl id k off len => H.get id k fun
    | .row c l _ => K c l id k off len
    | .ro c l => K c l id k off len
    | _ => False
  | .gs id k => H.get id k fun
    | .row c l _ => K c l id k 0 l.length
    | _ => False
  | _ => False

theorem view_ok {H : Heap U} {x : AV} {K : (c : U.C) → List (U.ty c) → Nat → Nat → Nat → Nat → Prop} (h : view H x K) :
    ∃ c l id k off len, K c l id k off len ∧ ∀ π w y, Conc π H w → Rep π x y → ∃ p a cap, π id k = some p ∧ p.esz = U.sz c ∧ y = .slice a len cap ∧ len ≤ cap ∧ (0 < len → a = some ⟨p.blk, p.off + off * p.esz, none⟩) ∧
      (∀ i z, l[i]? = some z → ∀ j q, (U.enc c z)[j]? = some q → ∃ v, w.cell? ⟨p.blk, p.off + i * p.esz + j, none⟩ = some v ∧ Rep π q v) := by
  unfold view at h
  split at h
  · rename_i id k off len
    obtain ⟨b, hb, h⟩ := Heap.get_at h
    cases b with
    | row c l t =>
      refine ⟨c, l, id, k, off, len, h, fun π w y hc hr => ?_⟩
      obtain ⟨p, hp, hok⟩ := hc.ok id k _ hb
      simp only [Rep] at hr
      obtain ⟨a, cap, rfl, hlc, ha⟩ := hr
      refine ⟨p, a, cap, hp, hok.2.1, rfl, hlc, fun hl => ?_, fun i z hz j q hq => hok.elem i z hz j q hq⟩
      obtain ⟨p', hp', e⟩ := ha hl
      rw [hp] at hp'; cases hp'; exact e
    | ro c l =>
      refine ⟨c, l, id, k, off, len, h, fun π w y hc hr => ?_⟩
      obtain ⟨p, hp, hok⟩ := hc.ok id k _ hb
      simp only [Rep] at hr
      obtain ⟨a, cap, rfl, hlc, ha⟩ := hr
      refine ⟨p, a, cap, hp, hok.1, rfl, hlc, fun hl => ?_, fun i z hz j q hq => hok.2 i z hz j q hq⟩
      obtain ⟨p', hp', e⟩ := ha hl
      rw [hp] at hp'; cases hp'; exact e
    | cells vs t => exact h.elim
    | rc vs t => exact h.elim
    | map m l => exact h.elim
    | mrow o vs => exact h.elim
  · rename_i id k
    obtain ⟨b, hb, h⟩ := Heap.get_at h
    cases b with
    | row c l t =>
      refine ⟨c, l, id, k, 0, l.length, h, fun π w y hc hr => ?_⟩
      obtain ⟨p, hp, hok⟩ := hc.ok id k _ hb
      simp only [Rep] at hr
      obtain ⟨p', hp', rfl⟩ := hr
      rw [hp] at hp'; cases hp'
      refine ⟨p, p.sa, p.sc, hp, hok.2.1, by simp [Place.sv, hok.2.2.1], hok.cap, fun hl => ?_, fun i z hz j q hq => hok.elem i z hz j q hq⟩
      obtain ⟨h0, h1, h2, h3, cs, h4, h5⟩ := hok
      cases hsa : p.sa with
      | none =>
        rcases h5.2 with ⟨_, hn⟩ | ⟨g, cap, cur, e, _⟩
        · omega
        · simp [Place.sv, hsa] at e
      | some ad => rw [h3 ad hsa, h0]; simp
    | ro c l => exact h.elim
    | cells vs t => exact h.elim
    | rc vs t => exact h.elim
    | map m l => exact h.elim
    | mrow o vs => exact h.elim
  · exact h.elim

/-! ### indexes -/
def opIndexAddr (P : Program) (t : TypeId) (x i : AV) (H : Heap U) (K : AV → Prop) : Prop :=
  match i with
  | .v (.int _ n) => match P.underlying t with
    | some (.slice e) => match tsize P e with
      | some sz => view H x fun c _ id k off len => eqB (U.sz c) sz ((0 ≤ n ∧ n < (len : Int)) ∧ K (.ptr id k (off + n.toNat) 0))
      | none => False
    | some (.array len e) => match x, tsize P e with
      | .ptr id k j fo, some sz => (0 ≤ n ∧ n < (len : Int)) ∧ K (.ptr id k j (fo + n.toNat * sz))
      | _, _ => False
    | _ => False
  | _ => False

theorem opIndexAddr_ok {P : Program} {o : Oper} {ρ : Operand → AV} {H : Heap U} {base : Nat} {t : TypeId} {xo io : Operand} {K : OOut U → Prop} (ho : o.op = .indexAddr t xo io)
    (h : opIndexAddr P t (ρ xo) (ρ io) H fun x => K (.val ⟨x, [], [], []⟩)) : ∃ r, K r ∧ OpOk P o ρ H base r := by
  unfold opIndexAddr at h
  split at h
  case h_2 => exact h.elim
  rename_i kk n hi
  split at h
  · rename_i e hu
    split at h
    case h_2 => exact h.elim
    rename_i sz hsz
    obtain ⟨c, l, id, k, off, len, h, hv⟩ := view_ok h
    obtain ⟨hcs, ⟨h0, hlt⟩, hK⟩ := eqB_ok h
    refine OpOk.pureV hK (by simp [ho]) fun π w a hc hρ => ?_
    obtain ⟨p, ad, cap, hp, hesz, hy, _, had, _⟩ := hv π w _ hc (hρ xo)
    have hlen : 0 < len := by omega
    have had' := had hlen
    subst had'
    refine ⟨.pointer (some ⟨p.blk, p.off + (off + n.toNat) * p.esz + 0, none⟩), ?_, by simp only [Rep]; exact ⟨p, hp, rfl⟩⟩
    have e1 : p.off + off * p.esz + n.toNat * sz = p.off + (off + n.toNat) * p.esz + 0 := by rw [hesz, hcs, Nat.add_mul]; omega
    simp [execOp, ho, Instr.indexAt, rep_v (hi ▸ hρ io), asIntOf, run_und hu, hy, h0, hlt, run_size hsz, Addr.add_eq, e1]
  · rename_i len e hu
    split at h
    case h_2 => exact h.elim
    rename_i id k j fo sz hx hsz
    obtain ⟨⟨h0, hlt⟩, hK⟩ := h
    refine OpOk.pureV hK (by simp [ho]) fun π w a hc hρ => ?_
    have hv := hρ xo; rw [hx] at hv; simp only [Rep] at hv
    obtain ⟨p, hp, hy⟩ := hv
    refine ⟨.pointer (some ⟨p.blk, p.off + j * p.esz + (fo + n.toNat * sz), none⟩), ?_, by simp only [Rep]; exact ⟨p, hp, rfl⟩⟩
    simp [execOp, ho, Instr.indexAt, rep_v (hi ▸ hρ io), asIntOf, run_und hu, hy, Instr.sureAddr, h0, hlt, run_size hsz, Addr.add_eq, Nat.add_assoc]
  · exact h.elim

/-! ### a part of a slice -/
def intO (d : Int) : Option AV → Option Int
  | none => some d
  | some (.v (.int _ n)) => some n
  | _ => none

def opSlice (P : Program) (t : TypeId) (x : AV) (lo hi : Option AV) (H : Heap U) (K : AV → Prop) : Prop :=
  match P.underlying t with
  | some (.slice e) => match tsize P e with
    | some sz => match x with
      | .v (.slice none 0 0) => match intO 0 lo, intO 0 hi with
        | some l, some h => (l = 0 ∧ h = 0) ∧ K (.v (.slice none 0 0))
        | _, _ => False
      | x => view H x fun c _ id k off len => match intO 0 lo, intO (len : Int) hi with
        | some l, some h => eqB (U.sz c) sz ((0 ≤ l ∧ l ≤ h ∧ h ≤ (len : Int)) ∧ K (.sl id k (off + l.toNat) (h.toNat - l.toNat)))
        | _, _ => False
    | none => False
  | _ => False
end AE
