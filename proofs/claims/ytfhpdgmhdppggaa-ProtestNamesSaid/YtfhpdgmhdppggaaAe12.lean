/- An own symbolic executor: parts of slices, append, len, least and greatest. No condition. -/
import Derived.Test.YtfhpdgmhdppggaaAe11
namespace AE
open Go

variable {U : Uni}

theorem intO_rep {d n : Int} {x : Option Operand} {ρ : Operand → AV} {a : Act} {π : Plc} (hρ : ∀ x, Rep π (ρ x) (a.eval x)) (h : intO d (x.map ρ) = some n) :
    (x = none ∧ n = d) ∨ ∃ k, (x.map a.eval) = some (.int k n) := by
  cases x with
  | none => simp [intO] at h; exact .inl ⟨rfl, h.symm⟩
  | some x =>
    right
    simp only [Option.map_some] at h ⊢
    unfold intO at h
    split at h
    · rename_i e; cases e
    · rename_i k m e
      simp at h; subst h
      have := hρ x
      simp at e
      rw [e] at this
      exact ⟨k, by rw [rep_v this]⟩
    · cases h

theorem run_sliceBound {P : Program} {w : World} {k : IntKind} {n : Int} {m : Nat} {c : BoundsCode} (h0 : 0 ≤ n) (h : n ≤ (m : Int)) : (Instr.sliceBound (.int k n) m c).run P w = .ok n.toNat w := by
  simp [Instr.sliceBound, asIntOf, h0, h]

theorem run_sliceBounds {P : Program} {w : World} {len cap : Nat} {lo hi : Option Operand} {ρ : Operand → AV} {a : Act} {π : Plc} (hρ : ∀ x, Rep π (ρ x) (a.eval x)) {l h : Int} (hl : intO 0 (lo.map ρ) = some l) (hh : intO (len : Int) (hi.map ρ) = some h)
    (h0 : 0 ≤ l) (hlh : l ≤ h) (hhl : h ≤ (len : Int)) (hc : len ≤ cap) : (Instr.sliceBounds true len cap (lo.map a.eval) (hi.map a.eval) none).run P w = .ok (l.toNat, h.toNat, cap) w := by
  have ehi : ∀ {β : Type} (f : Nat → Sem β), ((match (hi.map a.eval), (none : Option Value) with
      | some v, some _ => Instr.sliceBound v cap .slice3B
      | some v, none => Instr.sliceBound v cap .sliceAcap
      | none, none => Pure.pure len
      | none, some _ => stuck "Slice: max without high") >>= f).run P w = (f h.toNat).run P w := by
    intro β f
    rcases intO_rep hρ hh with ⟨rfl, rfl⟩ | ⟨k, e⟩
    · simp
    · rw [e]; simp [run_sliceBound (show 0 ≤ h by omega) (show h ≤ (cap : Int) by omega)]
  rcases intO_rep hρ hl with ⟨rfl, rfl⟩ | ⟨k, e⟩
  · rcases intO_rep hρ hh with ⟨rfl, rfl⟩ | ⟨k', e'⟩
    · simp [Instr.sliceBounds]
    · simp [Instr.sliceBounds, e', run_sliceBound (show 0 ≤ h by omega) (show h ≤ (cap : Int) by omega)]
  · rcases intO_rep hρ hh with ⟨rfl, rfl⟩ | ⟨k', e'⟩
    · simp [Instr.sliceBounds, e, run_sliceBound h0 hlh]
    · have hh' : l ≤ ((h.toNat : Nat) : Int) := by omega
      simp [Instr.sliceBounds, e, e', run_sliceBound (show 0 ≤ h by omega) (show h ≤ (cap : Int) by omega), run_sliceBound h0 hh']

theorem opSlice_ok {P : Program} {o : Oper} {ρ : Operand → AV} {H : Heap U} {base : Nat} {t : TypeId} {xo : Operand} {lo hi : Option Operand} {K : OOut U → Prop} (ho : o.op = .slice t xo lo hi none)
    (h : opSlice P t (ρ xo) (lo.map ρ) (hi.map ρ) H fun x => K (.val ⟨x, [], [], []⟩)) : ∃ r, K r ∧ OpOk P o ρ H base r := by
  unfold opSlice at h
  split at h
  case h_2 => exact h.elim
  rename_i e hu
  split at h
  case h_2 => exact h.elim
  rename_i sz hsz
  split at h
  · rename_i hx
    split at h
    case h_2 => exact h.elim
    rename_i l hh hl hhh
    obtain ⟨⟨rfl, rfl⟩, hK⟩ := h
    refine OpOk.pureV hK (by simp [ho]) fun π w a hc hρ => ⟨.slice none 0 0, ?_, by simp [Rep]⟩
    have hb := run_sliceBounds (P := P) (w := w) (len := 0) (cap := 0) hρ hl hhh (by omega) (by omega) (by omega) (by omega)
    simp only [Int.toNat_zero] at hb
    simp [execOp, ho, Instr.sliceAt, run_und hu, Instr.slice, rep_v (hx ▸ hρ xo), hb, run_size hsz]
  · obtain ⟨c, lst, id, k, off, len, h, hv⟩ := view_ok h
    split at h
    case h_2 => exact h.elim
    rename_i l hh hl hhh
    obtain ⟨hcs, ⟨h0, hlh, hhl⟩, hK⟩ := eqB_ok h
    refine OpOk.pureV hK (by simp [ho]) fun π w a hc hρ => ?_
    obtain ⟨p, ad, cap, hp, hesz, hy, hcap, had, _⟩ := hv π w _ hc (hρ xo)
    have hb := run_sliceBounds (P := P) (w := w) (cap := cap) hρ hl hhh h0 hlh hhl hcap
    refine ⟨.slice (if cap = l.toNat then ad else ad.map (·.add (l.toNat * sz))) (hh.toNat - l.toNat) (cap - l.toNat), ?_, ?_⟩
    · simp [execOp, ho, Instr.sliceAt, run_und hu, Instr.slice, hy, hb, run_size hsz]
    · simp only [Rep]
      refine ⟨_, _, rfl, by omega, fun hpos => ⟨p, hp, ?_⟩⟩
      have hne : ¬ cap = l.toNat := by omega
      rw [if_neg hne, had (by omega)]
      simp only [Option.map_some, Addr.add_eq, Option.some.injEq, Addr.mk.injEq, true_and, and_true]
      rw [hesz, hcs, Nat.add_mul]; omega

/-! ### len -/
def opLen (P : Program) (t : TypeId) (x : AV) (H : Heap U) (K : AV → Prop) : Prop :=
  match P.underlying t with
  | some (.slice _) => match x with
    | .v (.slice none n 0) => K (.i n)
    | .sl _ _ _ len => K (.i len)
    | .gs id k => H.get id k fun
      | .row _ l _ => K (.i l.length)
      | _ => False
    | _ => False
  | some (.map _ _) => match x with
    | .v (.map none) => K (.i 0)
    | .map id k => H.get id k fun
      | .map _ l => K (.i l.length)
      | _ => False
    | _ => False
  | some (.array n _) => K (.i n)
  | some .string => match x with
    | .v (.string s) => K (.i s.size)
    | _ => False
  | _ => False

theorem run_len {P : Program} {w : World} {a : Act} {o : Oper} {x : Operand} {t : TypeId} {v : Value} (ho : o.op = .call { callee := .builtin .len, args := #[x], argTypes := #[t] })
    (h : (Builtin.len_ #[t] o.type #[a.eval x]).run P w = .ok v w) : (execOp a.eval o).run P w = .ok (.value v) w := by
  simp [execOp, ho, resolve, invoke, builtin, h]

theorem opLen_ok {P : Program} {o : Oper} {ρ : Operand → AV} {H : Heap U} {base : Nat} {t : TypeId} {xo : Operand} {K : OOut U → Prop} (ho : o.op = .call { callee := .builtin .len, args := #[xo], argTypes := #[t] })
    (h : opLen P t (ρ xo) H fun x => K (.val ⟨x, [], [], []⟩)) : ∃ r, K r ∧ OpOk P o ρ H base r := by
  unfold opLen at h
  split at h
  · rename_i hu
    split at h
    · rename_i hx
      exact OpOk.pureV h (by simp [ho]) fun π w a hc hρ => ⟨_, run_len ho (v := .int .i64 _) (by simp [Builtin.len_, run_und hu, rep_v (hx ▸ hρ xo), goInt]; rfl), by simp [Rep]⟩
    · rename_i hx
      refine OpOk.pureV h (by simp [ho]) fun π w a hc hρ => ?_
      have hv := hρ xo; rw [hx] at hv; simp only [Rep] at hv
      obtain ⟨ad, cap, e, _⟩ := hv
      exact ⟨_, run_len ho (v := .int .i64 _) (by simp [Builtin.len_, run_und hu, e, goInt]; rfl), by simp [Rep]⟩
    · rename_i id k hx
      obtain ⟨b, hb, h⟩ := Heap.get_at h
      cases b with
      | row c l te =>
        refine OpOk.pureV h (by simp [ho]) fun π w a hc hρ => ?_
        have hv := hρ xo; rw [hx] at hv; simp only [Rep] at hv
        obtain ⟨p, hp, e⟩ := hv
        obtain ⟨p', hp', hok⟩ := hc.ok id k _ hb
        rw [hp] at hp'; cases hp'
        exact ⟨.int .i64 l.length, run_len ho (by simp [Builtin.len_, run_und hu, e, goInt, hok.2.2.1]), by simp [Rep]⟩
      | ro c l => exact h.elim
      | cells vs t => exact h.elim
      | rc vs t => exact h.elim
      | map m l => exact h.elim
      | mrow o vs => exact h.elim
    · exact h.elim
  · rename_i hu
    split at h
    · rename_i hx
      exact OpOk.pureV h (by simp [ho]) fun π w a hc hρ => ⟨_, run_len ho (v := .int .i64 0) (by simp [Builtin.len_, run_und hu, rep_v (hx ▸ hρ xo), goInt]), by simp [Rep]⟩
    · rename_i id k hx
      obtain ⟨b, hb, h⟩ := Heap.get_at h
      cases b with
      | map m l =>
        refine OpOk.pureV h (by simp [ho]) fun π w a hc hρ => ?_
        have hv := hρ xo; rw [hx] at hv; simp only [Rep] at hv
        obtain ⟨p, hp, e⟩ := hv
        obtain ⟨p', hp', hok⟩ := hc.ok id k _ hb
        rw [hp] at hp'; cases hp'
        obtain ⟨es, ck, h1, h2, h3, h4⟩ := hok
        have hsz : es.size = l.length := by have := congrArg List.length h3; simpa using this
        exact ⟨.int .i64 l.length, run_len ho (by simp [Builtin.len_, run_und hu, e, goInt, getObj, Sem.run, h1, hsz]), by simp [Rep]⟩
      | ro c l => exact h.elim
      | cells vs t => exact h.elim
      | rc vs t => exact h.elim
      | row c l t => exact h.elim
      | mrow o vs => exact h.elim
    · exact h.elim
  · rename_i hu
    exact OpOk.pureV h (by simp [ho]) fun π w a hc hρ => ⟨_, run_len ho (v := .int .i64 _) (by simp [Builtin.len_, run_und hu, goInt]; rfl), by simp [Rep]⟩
  · rename_i hu
    split at h
    · rename_i hx
      exact OpOk.pureV h (by simp [ho]) fun π w a hc hρ => ⟨_, run_len ho (v := .int .i64 _) (by simp [Builtin.len_, run_und hu, rep_v (hx ▸ hρ xo), goInt]; rfl), by simp [Rep]⟩
    · exact h.elim
  · exact h.elim

/-! ### least and greatest -/
def foldMM (mx : Bool) : Int → List AV → Option Int
  | a, [] => some a
  | a, .v (.int .i64 b) :: l => foldMM mx (match mx with | true => max a b | false => min a b) l
  | _, _ => none

def opMM (mx : Bool) (xs : List AV) (K : AV → Prop) : Prop :=
  match xs with
  | .v (.int .i64 a) :: l => match foldMM mx a l with
    | some n => K (.i n)
    | none => False
  | _ => False

theorem foldMM_some {mx : Bool} {a n : Int} {x : AV} {l : List AV} (h : foldMM mx a (x :: l) = some n) : ∃ b, x = .v (.int .i64 b) := by
  unfold foldMM at h
  split at h
  · cases ‹_ :: _ = []›
  · rename_i b l' heq
    simp at heq
    exact ⟨_, heq.1⟩
  · cases h

theorem foldMM_ok {P : Program} {w : World} {π : Plc} : ∀ {l : List AV} {ys : List Value} {a n : Int}, RepL π l ys →
    (foldMM true a l = some n → (ys.foldlM Builtin.max2 (.int .i64 a)).run P w = .ok (.int .i64 n) w) ∧ (foldMM false a l = some n → (ys.foldlM Builtin.min2 (.int .i64 a)).run P w = .ok (.int .i64 n) w)
  | [], ys, a, n, h => by
    simp only [RepL] at h; subst h
    simp [foldMM]
  | x :: l, ys, a, n, h => by
    simp only [RepL] at h
    obtain ⟨z, zs, rfl, hz, hr⟩ := h
    constructor
    · intro e
      obtain ⟨b, rfl⟩ := foldMM_some e
      simp only [foldMM] at e
      rw [rep_v hz]
      have := (foldMM_ok (P := P) (w := w) (a := max a b) (n := n) hr).1 e
      have hm : (if a < b then b else a) = max a b := by omega
      simp [List.foldlM_cons, Builtin.max2, hm, this]
    · intro e
      obtain ⟨b, rfl⟩ := foldMM_some e
      simp only [foldMM] at e
      rw [rep_v hz]
      have := (foldMM_ok (P := P) (w := w) (a := min a b) (n := n) hr).2 e
      have hm : (if b < a then b else a) = min a b := by omega
      simp [List.foldlM_cons, Builtin.min2, hm, this]

theorem opMM_ok {P : Program} {o : Oper} {ρ : Operand → AV} {H : Heap U} {base : Nat} {ts : Array TypeId} {xs : Array Operand} {mx : Bool} {K : OOut U → Prop} (ho : o.op = .call { callee := .builtin (if mx then .max else .min), args := xs, argTypes := ts })
    (h : opMM mx (xs.toList.map ρ) fun x => K (.val ⟨x, [], [], []⟩)) : ∃ r, K r ∧ OpOk P o ρ H base r := by
  unfold opMM at h
  split at h
  case h_2 => exact h.elim
  rename_i a l hx
  split at h
  case h_2 => exact h.elim
  rename_i n hn
  refine OpOk.pureV h (by simp [ho]) fun π w ac hc hρ => ⟨.int .i64 n, ?_, by simp [Rep]⟩
  have hr := RepL.evals hρ xs.toList
  rw [hx] at hr
  simp only [RepL] at hr
  obtain ⟨z, zs, he, hz, hr⟩ := hr
  rw [rep_v hz] at he
  have hf := foldMM_ok (P := P) (w := w) (a := a) (n := n) hr
  have hl : (xs.map ac.eval).toList = .int .i64 a :: zs := by rw [Array.toList_map]; exact he
  cases mx with
  | true => simp [execOp, ho, resolve, invoke, builtin, Builtin.max_, he, hf.1 hn]
  | false => simp [execOp, ho, resolve, invoke, builtin, Builtin.min_, he, hf.2 hn]
end AE
