/- An own symbolic executor: code. No condition. -/
import Derived.Test.YtfhpdgmhdppggaaAeN
import Derived.Scope
import Derived.RangeFuncRecord
namespace AE
open Go

variable {U : Uni}

/-! ### one operation, in its place -/
theorem Step.post {H : Heap U} {r : ORes U} {π πn : Plc} {w w' : World} {a : Act} {fr : Fr} {v : Value} {dst : Option Nat} (hc : Conc π H w) (hfr : FrOk π fr a.tmps) (hf : Fresh π H.length) (hp : Post H H.length r π πn w w' v) (hd : dstOk a.tmps.size dst = true) :
    Step π H w a (fr.put dst r.val) (H.app r) πn w' (a.put dst v) where
  fr := (hfr.mono hp.sub).putO hp.rep hd
  conc := (hc.app hf hp).1
  fresh := (hc.app hf hp).2
  sub := hp.sub
  only := fun id k hi => hp.only id k (.inl hi)
  keeps := hp.keepsOwned
  own := fun n hn => hn.app hp
  nt := Act.put_size _ _ _
  defers := Act.put_defers' _ _ _
  len := by rw [Heap.app_length]; omega

theorem Step.pan {H : Heap U} {π : Plc} {w w' : World} {a : Act} {fr : Fr} (hc : Conc π H w) (hfr : FrOk π fr a.tmps) (hf : Fresh π H.length) (hk : Keeps (fun _ => False) w w') : Step π H w a fr H π w' a where
  fr := hfr
  conc := hc.keep (Sub.refl π) fun id k b p hb hpl hph => by
    obtain ⟨p', hp', hok⟩ := hc.ok id k b hb
    rw [hpl] at hp'; cases hp'
    exact hk.block _ (hok.lt hph) (fun h => h)
  fresh := hf
  sub := Sub.refl π
  only := fun _ _ _ => rfl
  keeps := hk.weaken fun _ _ h => h.elim
  own := fun _ h => .inl h
  nt := rfl
  defers := rfl
  len := Nat.le_refl _

def isUndef : Value → Bool
  | .tuple a => Nat.beq a.size 0
  | _ => false
theorem isUndef_ok {v : Value} (h : isUndef v = true) : v = undef := by
  cases v <;> simp only [isUndef] at h <;> try cases h
  rename_i a
  have : a.size = 0 := Nat.eq_of_beq_eq_true h
  rw [Array.size_eq_zero_iff.1 this]; rfl

/-- What a guard says. -/
def seqG (all : List Oper) (g : Option (Nat × Bool)) (fr : Fr) (go skip : Fr → Prop) : Prop :=
  match g with
  | none => go fr
  | some (j, want) => match nth all j with
    | none => False
    | some oj => match oj.dst with
      | none => False
      | some d => match fr.get d with
        | .tt => match want with
          | true => go fr
          | false => skip fr
        | .ff => match want with
          | true => skip fr
          | false => go fr
        | .v (.bool b) => match want with
          | true => (b = true → go ((d, .tt) :: fr)) ∧ (b = false → skip ((d, .ff) :: fr))
          | false => (b = true → skip ((d, .tt) :: fr)) ∧ (b = false → go ((d, .ff) :: fr))
        | .v x => isB (isUndef x) (skip fr)
        | _ => False

theorem FrOk.ref {π : Plc} {fr : Fr} {tmps : Array Value} (h : FrOk π fr tmps) {d : Nat} {x : AV} (hx : Rep π x (tmps.getD d undef)) : FrOk π ((d, x) :: fr) tmps := by
  intro t
  rw [Fr.get_cons]
  split
  · rename_i e; subst e; exact hx
  · exact h t

theorem seqG_ok {ops : Array Oper} {o : Oper} {fr : Fr} {go skip : Fr → Prop} {π : Plc} {a : Act} (hf : FrOk π fr a.tmps) (h : seqG ops.toList o.guard fr go skip) :
    ∃ fr', FrOk π fr' a.tmps ∧ ((Region.wanted o (yielded ops a.tmps) = true ∧ go fr') ∨ (Region.wanted o (yielded ops a.tmps) = false ∧ skip fr')) := by
  unfold seqG at h
  unfold Region.wanted
  split at h
  · rename_i hg; rw [hg]; exact ⟨fr, hf, .inl ⟨rfl, h⟩⟩
  rename_i j want hg
  rw [hg]
  split at h
  · exact h.elim
  rename_i oj hoj
  rw [nth_eq] at hoj
  split at h
  · exact h.elim
  rename_i d hd
  have hr := hf d
  have one : ∀ {b : Bool}, a.tmps.getD d undef = .bool b → yielded ops a.tmps j = some b := fun hb => yielded_of hoj hd hb
  split at h
  · rename_i hv
    rw [hv] at hr
    have e := one (b := true) (by simpa [Rep] using hr)
    simp only [e]
    cases want
    · exact ⟨fr, hf, .inr ⟨rfl, h⟩⟩
    · exact ⟨fr, hf, .inl ⟨rfl, h⟩⟩
  · rename_i hv
    rw [hv] at hr
    have e := one (b := false) (by simpa [Rep] using hr)
    simp only [e]
    cases want
    · exact ⟨fr, hf, .inl ⟨rfl, h⟩⟩
    · exact ⟨fr, hf, .inr ⟨rfl, h⟩⟩
  · rename_i b hv
    rw [hv] at hr
    have hb : a.tmps.getD d undef = .bool b := by simpa [Rep] using hr
    have e := one hb
    simp only [e]
    cases b with
    | true =>
      have hfr : FrOk π ((d, .tt) :: fr) a.tmps := hf.ref (by simpa [Rep] using hb)
      cases want
      · exact ⟨_, hfr, .inr ⟨rfl, h.1 rfl⟩⟩
      · exact ⟨_, hfr, .inl ⟨rfl, h.1 rfl⟩⟩
    | false =>
      have hfr : FrOk π ((d, .ff) :: fr) a.tmps := hf.ref (by simpa [Rep] using hb)
      cases want
      · exact ⟨_, hfr, .inl ⟨rfl, h.2 rfl⟩⟩
      · exact ⟨_, hfr, .inr ⟨rfl, h.2 rfl⟩⟩
  · rename_i x _ hv
    obtain ⟨hu, h⟩ := isB_ok h
    rw [hv] at hr
    have hx : a.tmps.getD d undef = undef := by rw [Rep] at hr; rw [hr, isUndef_ok hu]
    have e := yielded_off (b := want) hoj hd hx
    refine ⟨fr, hf, .inr ⟨?_, h⟩⟩
    simp only [beq_eq_false_iff_ne]; exact e
  · exact h.elim

def noPend : Df → Bool
  | .pend _ :: _ => false
  | _ => true
theorem noPend_ok {df : Df} (h : noPend df = true) : pendOf df = none := by
  unfold noPend at h
  split at h
  · cases h
  · rename_i hne
    unfold pendOf
    split
    · rename_i j l; exact absurd rfl (hne j l)
    · rfl

def calleeO : Callee → Option Operand
  | .value f => some f
  | _ => none
theorem calleeO_ok {c : Callee} {f : Operand} (h : calleeO c = some f) : c = .value f := by
  unfold calleeO at h
  split at h
  · cases h; rfl
  · cases h

def isNilD : Df → Bool
  | [] => true
  | _ => false
def pendL : Option Code → Df
  | none => []
  | some j => [.pend j]
theorem pendOf_pendL (p : Option Code) : pendOf (pendL p) = p := by cases p <;> rfl
theorem DfOk.pendL {lo : Nat} {π : Plc} {w : World} {ds : List Deferred} (p : Option Code) (h : ds = []) : DfOk lo π w (AE.pendL p) ds := by cases p <;> exact h

/-- A call of a loop's yield. -/
def isY (o : Op) (fr : Fr) : Option (Nat × List AV) :=
  match o with
  | .call c => match c.callee with
    | .value f => match fr.eval f with
      | .fn (.yield l) [] [] => some (l, c.args.toList.map fr.eval)
      | _ => none
    | _ => none
  | _ => none
theorem isY_ok {o : Op} {fr : Fr} {l : Nat} {args : List AV} (h : isY o fr = some (l, args)) : ∃ f xs ts, o = .call { callee := .value f, args := xs, argTypes := ts } ∧ fr.eval f = .fn (.yield l) [] [] ∧ args = xs.toList.map fr.eval := by
  unfold isY at h
  split at h
  · rename_i c
    split at h
    · rename_i f hc
      split at h
      · rename_i l' hf
        simp only [Option.some.injEq, Prod.mk.injEq] at h
        obtain ⟨rfl, rfl⟩ := h
        exact ⟨f, c.args, c.argTypes, by cases c; simp at hc; rw [hc], hf, rfl⟩
      · cases h
    · cases h
  · cases h

/-- What it is for the yield to be what is said of it. -/
def YOk (P : Program) (l : Nat) (Y : List AV → Heap U → (AV → Option Code → Heap U → Prop) → Prop) (B : Base U) (rd : Option Nat) (n : Nat) : Prop :=
  ∀ (args : List AV) (H : Heap U) (K : AV → Option Code → Heap U → Prop), Y args H K → ∀ (vs : Array Value) (π : Plc) (w : World) (a : Act), St B [] [] H π w a → RepL π args vs.toList →
    ∃ f tmps assign body, (Instr.yield l vs).run P w = .ok (.round l f tmps assign body) w ∧
      RoundIn (Fw rd) (n - 1) P l f tmps assign body w fun e w' => ∃ y v p H' π', e = .returned y ∧ Rep π' v y ∧ K v p H' ∧ Sub π π' ∧ St B [] (pendL p) H' π' w' a

/-- An operation in the order of the text. -/
def seqO (E : Env U) (rnd : Bool) (o : Oper) (fr : Fr) (df : Df) (H : Heap U) (K : Fr → Df → Heap U → Prop) (KP : AV → Fr → Df → Heap U → Prop) : Prop :=
  match isY o.op fr with
  | some (l, args) => isB (dstOk E.nt o.dst && isNilD df) (l = E.l ∧ E.Y args H fun v p H' => K (fr.put o.dst v) (pendL p) H')
  | none =>
  match o.op with
  | .defer c => match rnd with
    | true => False
    | false => match calleeO c.callee with
      | some f => match fr.eval f with
        | .fn (.func g) [] caps => isB (dstOk E.nt o.dst && noPend df) (forceL caps fun caps => forceL (c.args.toList.map fr.eval) fun xs => K (fr.put o.dst (.v undef)) (.call (.func g) caps xs :: df) H)
        | _ => False
      | none => False
  | _ => opA E.P E.T o fr.eval H H.length fun
    | .val r => isB (dstOk E.nt o.dst) (K (fr.put o.dst r.val) df (H.app r))
    | .panic x => KP x fr df H

def seqA (E : Env U) (rnd : Bool) (all : List Oper) : List Oper → Fr → Df → Heap U → (Fr → Df → Heap U → Prop) → (AV → Fr → Df → Heap U → Prop) → Prop
  | [], fr, df, H, K, _ => K fr df H
  | o :: os, fr, df, H, K, KP =>
    seqG all o.guard fr
      (fun fr => seqO E rnd o fr df H (fun fr df H => seqA E rnd all os fr df H K KP) KP)
      (fun fr => isB (dstOk E.nt o.dst) (seqA E rnd all os (fr.put o.dst (.v undef)) df H K KP))

inductive Ex where
  | nrm
  | exit (i : Nat)
  | goto (l : Nat)
  | ret
  | pan (x : AV)

def QOf (B : Base U) (K : Ex → Fr → Df → Heap U → Prop) : Exit → Act → World → Prop
  | .normal, a, w => ∃ fr df H π, K .nrm fr df H ∧ St B fr df H π w a
  | .exit i, a, w => ∃ fr df H π, K (.exit i) fr df H ∧ St B fr df H π w a
  | .goto i, a, w => ∃ fr df H π, K (.goto i) fr df H ∧ St B fr df H π w a
  | .ret, a, w => ∃ fr df H π, K .ret fr df H ∧ St B fr df H π w a
  | .panic ch, a, w => ∃ x y fr df H π, ch = [{ v := y, recovered := false }] ∧ K (.pan x) fr df H ∧ Rep π x y ∧ St B fr df H π w a
  | .outgrown, _, _ => False

theorem defer_value {P : Program} {ρ : Operand → Value} {c : Call} {f : Operand} {g : Fn} {cap : Array Value} {t : TypeId} {w : World} (h : c.callee = .value f) (hρ : ρ f = .func g #[] cap) :
    (resolve ρ c t).run P w = .ok { target := .fn g cap, args := c.args.map ρ } w := by
  unfold resolve
  rw [h]
  simp only [Deferred.ofValue, hρ]
  have : (#[] : Array Value) ++ Array.map ρ c.args = Array.map ρ c.args := by simp
  rw [this]; rfl

section
variable {E : Env U} {B : Base U} (hT : E.T.Sound E.P) (hnt : B.nt = E.nt) {rnd : Bool} {rd : Option Nat} (hrd : rnd = false → rd = none) {n : Nat} (hY : YOk E.P E.l E.Y B rd n)
include hT hnt hrd hY

theorem seqO_ok {o : Oper} {fr : Fr} {df : Df} {H : Heap U} {K : Fr → Df → Heap U → Prop} {KP : AV → Fr → Df → Heap U → Prop} {K' : Ex → Fr → Df → Heap U → Prop} (hKP : ∀ x fr df H, KP x fr df H → K' (.pan x) fr df H) (h : seqO E rnd o fr df H K KP)
    {next : Act → World → Prop} {π : Plc} {w : World} {a : Act} (hS : St B fr df H π w a) (hn : ∀ fr df H π w a, K fr df H → St B fr df H π w a → next a w) : o.wpIn (Fw rd) n E.P a w next (QOf B K') := by
  unfold seqO at h
  split at h
  · rename_i l args hy
    obtain ⟨f, xs, ts, ho, hf, rfl⟩ := isY_ok hy
    obtain ⟨hb, hl, hy2⟩ := isB_ok h
    subst hl
    rw [Bool.and_eq_true] at hb
    obtain ⟨hd, hnil⟩ := hb
    have hdf : df = [] := by cases df <;> simp_all [isNilD]
    subst hdf
    have hv := hS.fr.eval f
    rw [hf] at hv
    simp only [Rep, RepL] at hv
    obtain ⟨va, vb, e, h1, h2⟩ := hv
    have hva : va = #[] := by apply Array.toList_inj.1; simpa using h1
    have hvb : vb = #[] := by apply Array.toList_inj.1; simpa using h2
    subst hva; subst hvb
    obtain ⟨fn, tmps, assign, body, hrun, hround⟩ := hY _ _ _ hy2 (xs.map a.eval) π w a { hS with fr := fun t => by simp [Fr.get, Rep] } (by rw [Array.toList_map]; exact RepL.evals hS.fr.eval xs.toList)
    have hex : (execOp a.eval o).run E.P w = .ok (.round E.l fn tmps assign body) w := by
      have harr : (#[] : Array Value) ++ xs.map a.eval = xs.map a.eval := by simp
      simp only [execOp, ho, resolve, e, Deferred.ofValue, Sem.run_bind, Sem.run_pure, Result.andThen_ok, invoke, harr, hrun]
    refine wpIn_of_run (by simp [ho]) hex ?_
    rw [Oper.uponIn_round]
    refine ⟨fun hh => by simp [Fw, Fence.wide] at hh, hround.mono fun e' w' hr => ?_⟩
    obtain ⟨y, v, p, H', π', rfl, hrv, hk, hsub, hS'⟩ := hr
    refine hn _ _ _ π' _ _ hk ?_
    have hfr : FrOk π' fr a.tmps := hS.fr.mono hsub
    exact { hS' with fr := hfr.putO hrv (by rw [hS.nt, hnt]; exact hd), nt := by rw [Act.put_size]; exact hS'.nt, df := by rw [Act.put_defers']; exact hS'.df }
  split at h
  · rename_i c ho
    cases rnd with
    | true => exact h.elim
    | false =>
    simp only at h
    split at h
    case h_2 => exact h.elim
    rename_i f hcal
    replace hcal := calleeO_ok hcal
    split at h
    case h_2 => exact h.elim
    rename_i g caps hfn
    have hv := hS.fr.eval f
    rw [hfn] at hv
    simp only [Rep, RepL] at hv
    obtain ⟨va, vb, hev, h1, h2⟩ := hv
    have hva : va = #[] := by apply Array.toList_inj.1; simpa using h1
    subst hva
    have hr0 := hrd rfl
    subst hr0
    obtain ⟨hd, h⟩ := isB_ok h
    rw [Bool.and_eq_true] at hd
    obtain ⟨hd, hnp⟩ := hd
    replace hnp := noPend_ok hnp
    replace h := forceL_ok (K := fun xs => K (fr.put o.dst (.v undef)) (.call (.func g) caps xs :: df) H) (forceL_ok (K := fun caps => forceL (c.args.toList.map fr.eval) fun xs => K (fr.put o.dst (.v undef)) (.call (.func g) caps xs :: df) H) h)
    have hrun : (o.semAt (Fw none).round a.eval).run E.P w = .ok (.defer { target := .fn (.func g) vb, args := c.args.map a.eval }) w := by
      rw [show (Fw none).round = none from rfl, Oper.semAt_none]
      unfold execOp
      rw [ho]
      simp only [bind_assoc, Sem.run_bind]
      rw [defer_value hcal hev]; rfl
    refine ⟨fun _ _ => trivial, ?_⟩
    rw [hrun]
    simp only [Oper.uponIn_defer]
    refine hn _ _ _ π _ _ h ⟨?_, hS.conc, hS.fresh, hS.only, hS.keeps, hS.own, ?_, (by have := hS.j; rw [hnp] at this; exact this), ?_, hS.len⟩
    · exact FrOk.putO (a := { a with defers := _ :: a.defers }) hS.fr (by simp [Rep]) (by rw [← hnt, ← hS.nt] at hd; exact hd)
    · rw [Act.put_size]; exact hS.nt
    · rw [Act.put_defers']
      refine ⟨vb, c.args.map a.eval, a.defers, rfl, h2, ?_, hS.df⟩
      refine RepL.of_get (by simp) fun j x hx => ?_
      rw [List.getElem?_map] at hx
      cases hj : c.args.toList[j]? with
      | none => rw [hj] at hx; cases hx
      | some y =>
        rw [hj] at hx; simp at hx; subst hx
        exact ⟨a.eval y, by rw [Array.toList_map, List.getElem?_map, hj]; rfl, hS.fr.eval y⟩
  · obtain ⟨r, hk, hop⟩ := opA_ok hT h
    cases r with
    | val r =>
      simp only at hk
      obtain ⟨hd, hk⟩ := isB_ok hk
      refine Oper.wpIn_both (fun a2 w2 h2 => ?_) (fun _ _ _ h => h.elim) (hop rd n π w a hS.conc hS.fr.eval fun j k _ => hS.fresh _ _ (by omega))
      obtain ⟨v, πn, rfl, hp⟩ := h2
      exact hn _ _ _ πn _ _ hk (hS.step (Step.post hS.conc hS.fr hS.fresh hp (by rw [hS.nt, hnt]; exact hd)))
    | panic x =>
      refine Oper.wpIn_both (fun _ _ h => h.elim) (fun ex a2 w2 h2 => ?_) (hop rd n π w a hS.conc hS.fr.eval)
      obtain ⟨y, rfl, rfl, hy, hkp⟩ := h2
      exact ⟨x, y, fr, df, H, π, rfl, hKP _ _ _ _ hk, hy, hS.step (Step.pan hS.conc hS.fr hS.fresh hkp)⟩

theorem seqA_ok {ops : Array Oper} {K' : Ex → Fr → Df → Heap U → Prop} : ∀ (os : List Oper) (i : Nat) (fr : Fr) (df : Df) (H : Heap U), ops.toList.drop i = os → seqA E rnd ops.toList os fr df H (K' .nrm) (fun x => K' (.pan x)) →
    ∀ (π : Plc) (w : World) (a : Act), St B fr df H π w a → wpOpsIn (Fw rd) n E.P ops (QOf B K') (List.range' i os.length) a w
  | [], i, fr, df, H, _, h, π, w, a, hS => ⟨fr, df, H, π, by simpa [seqA] using h, hS⟩
  | o :: os, i, fr, df, H, hd, h, π, w, a, hS => by
    have ho : ops[i]? = some o := by
      have : (ops.toList.drop i)[0]? = some o := by rw [hd]; rfl
      rw [List.getElem?_drop] at this; simpa using this
    have hd' : ops.toList.drop (i + 1) = os := by rw [← List.drop_drop, hd]; rfl
    unfold seqA at h
    obtain ⟨fr', hf', hh⟩ := seqG_ok (ops := ops) (o := o) hS.fr h
    have hS' : St B fr' df H π w a := { hS with fr := hf' }
    rw [List.length_cons, List.range'_succ]
    simp only [wpOpsIn, ho]
    rcases hh with ⟨hw, hh⟩ | ⟨hw, hh⟩
    · rw [if_pos hw]
      exact seqO_ok hT hnt hrd hY (fun _ _ _ _ h => h) hh hS' fun fr df H π w a hk hS => seqA_ok os (i + 1) fr df H hd' hk π w a hS
    · rw [if_neg (by rw [hw]; simp)]
      obtain ⟨hdo, hh⟩ := isB_ok hh
      refine ⟨fun _ _ => trivial, seqA_ok os (i + 1) _ df H hd' hh π w _ ?_⟩
      exact { hS' with fr := hf'.putO (by simp [Rep]) (by rw [hS.nt, hnt]; exact hdo), nt := by rw [Act.put_size]; exact hS.nt, df := by rw [Act.put_defers']; exact hS.df }
end

/-! ### code -/
/-- A loop's invariant: what frame and memory are, of something that is not seen; what gets less. -/
structure LSpec (U : Uni) where
  T : Type
  fr : T → Fr
  H : T → Heap U
  mu : T → Nat
inductive LRule (U : Uni) where
  | inv (s : LSpec U)
  | invR (s : LSpec U) (rel : s.T → s.T → Prop)
  | unroll (n : Nat)

/-- The first region of a code. -/
def keyOf : Code → Nat
  | .region id _ _ => id
  | .seq a _ => keyOf a
  | .block _ c => keyOf c
  | .loop c => keyOf c
  | .scope c => keyOf c
  | _ => 0

def sameDf : Df → Df → Prop
  | [], [] => True
  | a, b => a = b
theorem sameDf_ok {a b : Df} (h : sameDf a b) : a = b := by
  unfold sameDf at h
  split at h
  · rfl
  · exact h

/-- An iterator: its number, its text, its walk, by what its yield does (E.Y), the loop's record, where the loop's own blocks begin. -/
structure ItW (U : Uni) where
  g : FuncId
  fn : Func
  run : (List AV → Heap U → (AV → Option Code → Heap U → Prop) → Prop) → Nat → Nat → Fr → Heap U → (Ex → Fr → Df → Heap U → Prop) → Prop

structure Cfg (U : Uni) where
  it : Nat → Option (ItW U) := fun _ => none
  rnd : Bool := false
  m : Nat
  L : Nat → Option (LRule U) := fun _ => none
  hs : Nat → List Nat := fun _ => []
  sp : Nat → Option (Nat × Nat) := fun _ => none

/-- A state, worked out. -/
def worked (K : Ex → Fr → Df → Heap U → Prop) (e : Ex) (fr : Fr) (df : Df) (H : Heap U) : Prop :=
  forceP fr fun fr => forceH H fun H => K e fr df H
theorem worked_ok {K : Ex → Fr → Df → Heap U → Prop} {e : Ex} {fr : Fr} {df : Df} {H : Heap U} (h : worked K e fr df H) : K e fr df H :=
  forceH_ok (K := fun H => K e fr df H) (forceP_ok (K := fun fr => forceH H fun H => K e fr df H) h)

def unrA (body : Fr → Df → Heap U → (Ex → Fr → Df → Heap U → Prop) → Prop) (K : Ex → Fr → Df → Heap U → Prop) : Nat → Fr → Df → Heap U → Prop
  | 0, _, _, _ => False
  | n + 1, fr, df, H => body fr df H fun
    | .nrm, fr, df, H => unrA body K n fr df H
    | e, fr, df, H => K e fr df H

/-- Whichever of some numbers a slot holds. -/
def brS (t : Nat) (x : Int) (K : Fr → Df → Heap U → Prop) (fr : Fr) (df : Df) (H : Heap U) : Nat → Nat → Prop
  | _, 0 => True
  | i, n + 1 => (x = (i : Int) → K ((t, .i i) :: fr) df H) ∧ brS t x K fr df H (i + 1) n
def spK (o : Option (Nat × Nat)) (K : Fr → Df → Heap U → Prop) (fr : Fr) (df : Df) (H : Heap U) : Prop :=
  match o with
  | none => K fr df H
  | some (t, n) => match fr.get t with
    | .v (.int .i64 x) => (0 ≤ x ∧ x < (n : Int)) ∧ brS t x K fr df H 0 n
    | _ => False
theorem brS_ok {t : Nat} {x : Int} {K : Fr → Df → Heap U → Prop} {fr : Fr} {df : Df} {H : Heap U} : ∀ {i n : Nat}, brS t x K fr df H i n → ∀ j, j < n → x = ((i + j : Nat) : Int) → K ((t, .i ((i + j : Nat) : Int)) :: fr) df H
  | i, 0, _, j, hj, _ => by omega
  | i, n + 1, h, 0, _, hx => h.1 (by simpa using hx)
  | i, n + 1, h, j + 1, hj, hx => by
    have := brS_ok h.2 j (by omega) (by rw [hx]; congr 1; omega)
    rwa [show i + 1 + j = i + (j + 1) by omega] at this
theorem spK_ok {o : Option (Nat × Nat)} {K : Fr → Df → Heap U → Prop} {fr : Fr} {df : Df} {H : Heap U} (h : spK o K fr df H) {B : Base U} {π : Plc} {w : World} {a : Act} (hS : St B fr df H π w a) : ∃ fr', K fr' df H ∧ St B fr' df H π w a := by
  unfold spK at h
  split at h
  · exact ⟨fr, h, hS⟩
  · split at h
    case h_2 => exact h.elim
    rename_i t n _ x hx
    obtain ⟨⟨h1, h2⟩, h⟩ := h
    have hk := brS_ok h x.toNat (by omega) (by rw [Nat.zero_add]; omega)
    refine ⟨_, hk, { hS with fr := hS.fr.ref ?_ }⟩
    have := hS.fr t
    rw [hx] at this
    rw [Nat.zero_add, show ((x.toNat : Nat) : Int) = x by omega]; exact this

def putsF : List Nat → List AV → Fr → Option Fr
  | [], [], fr => some fr
  | t :: ts, x :: xs, fr => putsF ts xs ((t, x) :: fr)
  | _, _, _ => none
def roundK (Ky : AV → Option Code → Heap U → Prop) : Ex → Fr → Df → Heap U → Prop := fun e _ df H => sameDf df [] ∧ match e with
  | .nrm => Ky .tt none H
  | .ret => Ky .ff (some .ret) H
  | .exit i => Ky .ff (some (.exit i)) H
  | .goto l => Ky .ff (some (.goto l)) H
  | .pan _ => False
def jumpK (K : Ex → Fr → Df → Heap U → Prop) (j : Code) (fr : Fr) (df : Df) (H : Heap U) : Prop :=
  match j with
  | .ret => K .ret fr df H
  | .exit i => K (.exit i) fr df H
  | .goto l => K (.goto l) fr df H
  | _ => False
def itEndK (K : Ex → Fr → Df → Heap U → Prop) (fr : Fr) (df : Df) : Ex → Fr → Df → Heap U → Prop := fun e _ df2 H2 =>
  match e, df2 with
  | .nrm, [] | .ret, [] => K .nrm fr (.mark :: df) H2
  | .nrm, [.pend j] | .ret, [.pend j] => jumpK K j fr (.mark :: df) H2
  | _, _ => False
def frameOf : Nat → List AV → Fr
  | _, [] => []
  | i, x :: xs => (i, x) :: frameOf (i + 1) xs
theorem frameOf_ok {π : Plc} {tmps : Array Value} : ∀ {i : Nat} {xs : List AV}, (∀ (j : Nat) (x : AV), xs[j]? = some x → Rep π x (tmps.getD (i + j) undef)) → FrOk π (frameOf i xs) tmps
  | i, [], _, t => by simp [frameOf, Fr.get, Rep]
  | i, x :: xs, h, t => by
    unfold frameOf
    rw [Fr.get_cons]
    split
    · rename_i e; subst e; exact h 0 x (by simp)
    · exact frameOf_ok (fun j x' hx => by have := h (j + 1) x' (by simpa using hx); rwa [show i + (j + 1) = i + 1 + j by omega] at this) t
def bodyOf (fn : Func) : Code :=
  match fn.body with
  | some c => c
  | none => .refuse ""

def wpA : Env U → Cfg U → Code → Fr → Df → Heap U → (Ex → Fr → Df → Heap U → Prop) → Prop
  | E, C, .skip, fr, df, H, K => K .nrm fr df H
  | E, C, .label _, fr, df, H, K => K .nrm fr df H
  | E, C, .region id ops draw, fr, df, H, K => match draw with
    | false => seqA E C.rnd ops.toList ops.toList fr df H (spK (C.sp id) (worked K .nrm)) (fun x => worked K (.pan x))
    | true => drawGo E ops.toList (C.hs id) fr H ops.toList [] [] none (fun fr H => worked K .nrm fr df H) (fun x H => worked K (.pan x) (jkF ops.toList fr) df H)
  | E, C, .seq a b, fr, df, H, K => wpA E C a fr df H fun
    | .nrm, fr, df, H => wpA E C b fr df H K
    | e, fr, df, H => K e fr df H
  | E, C, .cond c x y, fr, df, H, K => match fr.eval c with
    | .tt => wpA E C x fr df H K
    | .ff => wpA E C y fr df H K
    | .v (.bool b) => match c with
      | .tmp t => (b = true → wpA E C x ((t, .tt) :: fr) df H K) ∧ (b = false → wpA E C y ((t, .ff) :: fr) df H K)
      | _ => False
    | _ => False
  | E, C, .block id c, fr, df, H, K => wpA E C c fr df H fun
    | .exit i, fr, df, H => match Nat.decEq i id with
      | .isTrue _ => K .nrm fr df H
      | .isFalse _ => K (.exit i) fr df H
    | e, fr, df, H => K e fr df H
  | E, C, .loop c, fr, df, H, K => match C.L (keyOf c) with
    | none => False
    | some (.unroll n) => unrA (wpA E C c) K n fr df H
    | some (.inv s) => (∃ t, weakN C.m fr df H (s.fr t) (s.H t)) ∧ ∀ t, wpA E C c (s.fr t) df (s.H t) fun
      | .nrm, fr', df', H' => sameDf df' df ∧ ∃ t', weakN C.m fr' df' H' (s.fr t') (s.H t') ∧ s.mu t' < s.mu t
      | e, fr', df', H' => K e fr' df' H'
    | some (.invR s rel) => ∃ t0, weakN C.m fr df H (s.fr t0) (s.H t0) ∧ rel t0 t0 ∧ ∀ t, rel t0 t → wpA E C c (s.fr t) df (s.H t) fun
      | .nrm, fr', df', H' => sameDf df' df ∧ ∃ t', weakN C.m fr' df' H' (s.fr t') (s.H t') ∧ s.mu t' < s.mu t ∧ rel t0 t'
      | e, fr', df', H' => K e fr' df' H'
  | E, C, .exit id, fr, df, H, K => K (.exit id) fr df H
  | E, C, .goto l, fr, df, H, K => K (.goto l) fr df H
  | E, C, .ret, fr, df, H, K => K .ret fr df H
  | E, C, .scope c, fr, df, H, K => wpA E C c fr df H fun
    | .goto _, _, _, _ => False
    | e, fr, df, H => K e fr df H
  | E, C, .rangeFunc f ps assign body, fr, df, H, K => match fr.eval f, C.it (keyOf body) with
    | .fn (.func g) [] caps, some it => isB (!C.rnd && noPend df && Nat.beq g it.g && (ps.toList.all fun t => Nat.blt t E.nt) && Nat.ble (caps.length + 1) it.fn.ntmps) (∀ l,
        it.run (fun args Hy Ky => match putsF ps.toList args fr with
          | some fr1 => wpA { E with Y := fun _ _ _ => False } { C with rnd := true, m := Hy.length } assign fr1 [] Hy fun
            | .nrm, fr2, df2, H2 => sameDf df2 [] ∧ wpA { E with Y := fun _ _ _ => False } { C with rnd := true, m := Hy.length } body fr2 [] H2 (roundK Ky)
            | _, _, _, _ => False
          | none => False) l H.length (frameOf 0 (.fn (.yield l) [] [] :: caps)) H (itEndK K fr df))
    | _, _ => False
  | _, _, .refuse _, _, _, _, _ => False

theorem least_ex {p : Nat → Prop} : ∀ {n : Nat}, p n → ∃ m, p m ∧ ∀ k, p k → m ≤ k := by
  intro n
  induction n using Nat.strongRecOn with
  | ind n ih =>
    intro hp
    by_cases h : ∃ k, k < n ∧ p k
    · obtain ⟨k, hk, hpk⟩ := h; exact ih k hk hpk
    · exact ⟨n, hp, fun k hk => by
        rcases Nat.lt_or_ge k n with h1 | h1
        · exact absurd ⟨k, h1, hk⟩ h
        · exact h1⟩

/-- A loop by what gets less with each round. -/
theorem wpIn_loop_rel {F : Fence} {n : Nat} {P : Program} {c : Code} {Q : Exit → Act → World → Prop} (I : Nat → Act → World → Prop)
    (round : ∀ j a w, I j a w → c.wpIn F n P (Exit.then (fun a' w' => ∃ j', j' < j ∧ I j' a' w') Q) a w) {j : Nat} {a : Act} {w : World} (h : I j a w) : (Code.loop c).wpIn F n P Q a w := by
  have hex : ∀ a w, ∃ m, (∃ j, I j a w) → I m a w ∧ ∀ k, I k a w → m ≤ k := by
    intro a w
    by_cases h : ∃ j, I j a w
    · obtain ⟨j, hj⟩ := h
      obtain ⟨m, h1, h2⟩ := least_ex (p := fun j => I j a w) hj
      exact ⟨m, fun _ => ⟨h1, h2⟩⟩
    · exact ⟨0, fun h' => absurd h' h⟩
  let μ : Act → World → Nat := fun a w => Classical.choose (hex a w)
  have hμ : ∀ {a w}, (∃ j, I j a w) → I (μ a w) a w ∧ ∀ k, I k a w → μ a w ≤ k := fun {a w} h => Classical.choose_spec (hex a w) h
  refine wpIn_loop (fun a w => ∃ j, I j a w) μ ⟨j, h⟩ fun a w hI => ?_
  refine Go.wpIn_mono (round _ a w (hμ hI).1) fun e a' w' q => ?_
  cases e with
  | normal =>
    obtain ⟨j', hj', hI'⟩ := q
    exact ⟨⟨j', hI'⟩, Nat.lt_of_le_of_lt ((hμ ⟨j', hI'⟩).2 _ hI') hj'⟩
  | exit i => exact q
  | goto i => exact q
  | ret => exact q
  | panic ch => exact q
  | outgrown => exact q

theorem QOf.mono {B : Base U} {K K' : Ex → Fr → Df → Heap U → Prop} (h : ∀ e fr df H, K e fr df H → K' e fr df H) : ∀ e a w, QOf B K e a w → QOf B K' e a w := by
  intro e a w q
  cases e with
  | normal => obtain ⟨fr, df, H, π, hk, hs⟩ := q; exact ⟨fr, df, H, π, h _ _ _ _ hk, hs⟩
  | exit i => obtain ⟨fr, df, H, π, hk, hs⟩ := q; exact ⟨fr, df, H, π, h _ _ _ _ hk, hs⟩
  | goto i => obtain ⟨fr, df, H, π, hk, hs⟩ := q; exact ⟨fr, df, H, π, h _ _ _ _ hk, hs⟩
  | ret => obtain ⟨fr, df, H, π, hk, hs⟩ := q; exact ⟨fr, df, H, π, h _ _ _ _ hk, hs⟩
  | panic ch => obtain ⟨x, y, fr, df, H, π, he, hk, hs⟩ := q; exact ⟨x, y, fr, df, H, π, he, h _ _ _ _ hk, hs⟩
  | outgrown => exact q

theorem wpOpsIn_mono' {F : Fence} {n : Nat} {P : Program} {ops : Array Oper} {Q Q' : Exit → Act → World → Prop} (hq : ∀ e a w, Q e a w → Q' e a w) : ∀ {l : List Nat} {a : Act} {w : World}, wpOpsIn F n P ops Q l a w → wpOpsIn F n P ops Q' l a w
  | [], a, w, h => hq _ _ _ h
  | i :: rest, a, w, h => by
    simp only [wpOpsIn] at h ⊢
    split
    · rename_i ho; rw [ho] at h; exact wpOpsIn_mono' hq h
    · rename_i o ho
      rw [ho] at h
      simp only at h
      split
      · rename_i hw; rw [if_pos hw] at h; exact Oper.wpIn_both (fun a w h => wpOpsIn_mono' hq h) hq h
      · rename_i hw; rw [if_neg hw] at h; exact ⟨h.1, wpOpsIn_mono' hq h.2⟩

/-! ### a loop's record -/
theorem not_plain_loop {r : Loop} : ¬ plainObj (Obj.loop r) := by
  rintro (⟨_, _, _, h⟩ | ⟨_, _, h⟩) <;> cases h

/-- Where a loop's round, or the function that it ranges over, sets out: the record is what it is by the jump that waits. -/
abbrev Base.lp (π : Plc) (H : Heap U) (w : World) (nt : Nat) (fresh : Fresh π H.length) (l : Nat) (r : Option Code → Loop) : Base U :=
  { π := π, H := H, w := w, nt := nt, fresh := fresh, x := fun k => k = l, J := fun p w => w.heap[l]? = some (.loop (r p))
    Jk := fun p w w' h hj => by rw [h l rfl]; exact hj
    Jx := fun p w k hj hk => ⟨.loop (r p), by have hk' : k = l := hk; subst hk'; exact hj, not_plain_loop⟩ }

theorem BlkOk.plain {π : Plc} {w : World} {p : Place} {b : AB1 U} (hb : BlkOk π w p b) (hp : b.phys p) : ∃ o, w.heap[p.blk]? = some o ∧ plainObj o := by
  cases b with
  | cells vs t => obtain ⟨h0, cs, h1, h2⟩ := hb; exact ⟨_, h1, .inl ⟨_, _, _, rfl⟩⟩
  | rc vs t => obtain ⟨h0, cs, h1, h2⟩ := hb; exact ⟨_, h1, .inl ⟨_, _, _, rfl⟩⟩
  | row c l t =>
    obtain ⟨h0, h1, h2, h3, cs, h4, h5⟩ := hb
    rcases h5.2 with ⟨e, hn⟩ | ⟨g, cap, cur, e, hb', hg, hn, hc, hs, ht⟩
    · simp only [Place.sv, Value.slice.injEq] at e; exact absurd e.1 hp
    · have hsa : p.sa = some ⟨g, 0, none⟩ := by simp only [Place.sv, Value.slice.injEq] at e; exact e.1
      have hg' : g = p.blk := by simpa using congrArg Addr.block (h3 _ hsa)
      subst hg'; exact ⟨_, hg, .inl ⟨_, _, _, rfl⟩⟩
  | ro c l =>
    obtain ⟨h1, h2⟩ := hb
    obtain ⟨hl, hz⟩ := hp
    cases l with
    | nil => exact absurd rfl hl
    | cons x l =>
      have hlen := U.len c x
      cases he : U.enc c x with
      | nil => rw [he] at hlen; exact absurd hlen.symm hz
      | cons a aa =>
        obtain ⟨y, hy, _⟩ := h2 0 x (by simp) 0 a (by simp [he])
        unfold World.cell? at hy
        split at hy
        · rename_i c _ _ hc; exact ⟨_, hc, .inl ⟨_, _, _, rfl⟩⟩
        · cases hy
  | map m l => obtain ⟨es, ck, h1, h2⟩ := hb; exact ⟨_, h1, .inr ⟨_, _, rfl⟩⟩
  | mrow o vs => obtain ⟨es, ck, ks, h1, h2⟩ := hb; exact ⟨_, h1, .inr ⟨_, _, rfl⟩⟩

theorem Conc.putObj {π : Plc} {H : Heap U} {w : World} (hc : Conc π H w) {l : Nat} {o o' : Obj} (h : w.heap[l]? = some o) (hp : ¬ plainObj o) : Conc π H (w.putObj l o') := by
  refine hc.keep (Sub.refl π) fun id k b p hb hpl hph => World.putObj_heap_other fun e => ?_
  obtain ⟨p', hp', hok⟩ := hc.ok id k b hb
  rw [hpl] at hp'; cases hp'
  obtain ⟨o2, ho2, hpl2⟩ := hok.plain hph
  rw [e, h] at ho2; cases ho2
  exact hp hpl2

theorem keeps_put (w : World) (l : Nat) (o : Obj) : Keeps (fun k => k = l) w (w.putObj l o) :=
  ⟨rfl, rfl, rfl, by simp, fun k _ hk => World.putObj_heap_other hk⟩

theorem put_keeps_deferred {w : World} {l : Nat} {r : Loop} {o : Obj} (h : w.heap[l]? = some (.loop r)) (D : Nat) (hD : w.heap[D]? = some (Obj.deferred (some []))) : (w.putObj l o).heap[D]? = some (Obj.deferred (some [])) := by
  rw [World.putObj_heap_other fun e => ?_]; exact hD
  rw [e, h] at hD; cases hD

/-- The record turns. -/
theorem St.put {π0 : Plc} {H0 : Heap U} {w0 : World} {nt : Nat} {hf : Fresh π0 H0.length} {l : Nat} {r r' : Option Code → Loop} {fr : Fr} {df : Df} {H : Heap U} {π : Plc} {w : World} {a : Act}
    (h : St (Base.lp π0 H0 w0 nt hf l r) fr df H π w a) : St (Base.lp π0 H0 w0 nt hf l r') fr df H π (w.putObj l (.loop (r' (pendOf df)))) a where
  fr := h.fr
  conc := h.conc.putObj h.j not_plain_loop
  fresh := h.fresh
  only := h.only
  keeps := h.keeps.trans (keeps_put w l _) fun n _ hn => .inr hn
  own := h.own
  nt := h.nt
  j := World.putObj_heap_same (Array.getElem?_eq_some_iff.1 h.j).1
  df := h.df.mono (Sub.refl π) fun D hD => put_keeps_deferred h.j D hD
  len := h.len

/-- A round is over. -/
theorem St.back {π0 : Plc} {H0 : Heap U} {w0 : World} {nt nt' : Nat} {hf : Fresh π0 H0.length} {l : Nat} {r r' : Option Code → Loop} {p : Option Code} {fr fr' : Fr} {H H' : Heap U} {π π' : Plc} {w w' : World} {a a' : Act}
    (h : St (Base.lp π0 H0 w0 nt hf l r) fr [] H π w a) (k : St (Base.lp π H w nt' h.fresh l r') fr' [] H' π' w' a') :
    St (Base.lp π0 H0 w0 nt hf l r) [] (pendL p) H' π' (w'.putObj l (.loop (r p))) a where
  fr := fun t => by simp [Fr.get, Rep]
  conc := k.conc.putObj k.j not_plain_loop
  fresh := k.fresh
  only := fun id j hi => (k.only id j (Nat.lt_of_lt_of_le hi h.len)).trans (h.only id j hi)
  keeps := (h.keeps.trans k.keeps fun n hn ho => by
    rcases ho with ho | ho
    · exact .inl ((h.own n ho).resolve_right (by show ¬ w0.heap.size ≤ n; exact Nat.not_le.2 hn))
    · exact .inr ho).trans (keeps_put w' l _) fun n _ hn => .inr hn
  own := fun n hn => by
    rcases k.own n hn with h1 | h1
    · exact h.own n h1
    · exact .inr (Nat.le_trans h.keeps.size h1)
  nt := h.nt
  j := by rw [pendOf_pendL]; exact World.putObj_heap_same (Array.getElem?_eq_some_iff.1 k.j).1
  df := DfOk.pendL p h.df
  len := Nat.le_trans h.len k.len

theorem DfOk.lt {lo : Nat} {π : Plc} {w : World} : ∀ {l : Df} {ds : List Deferred}, DfOk lo π w l ds → ∀ d ∈ ds, ∀ D, d.target = .collected D → D < w.heap.size
  | [], ds, e, d, hd, D, _ => by cases (show ds = [] from e); cases hd
  | .call f xs ys :: l, ds, ⟨cap, args, ds', e, h1, h2, h3⟩, d, hd, D, hD => by
    subst e
    rcases List.mem_cons.1 hd with rfl | hd
    · cases hD
    · exact DfOk.lt h3 d hd D hD
  | .mark :: l, ds, ⟨D', ds', e, h1, h2, h3, h4⟩, d, hd, D, hD => by
    subst e
    rcases List.mem_cons.1 hd with rfl | hd
    · cases hD; exact (Array.getElem?_eq_some_iff.1 h1).1
    · exact DfOk.lt h4 d hd D hD
  | .pend j :: l, ds, e, d, hd, D, hD => DfOk.lt (l := l) e d hd D hD

/-- The function that was ranged over has ended. -/
theorem St.out {B : Base U} {fr fr' : Fr} {df df' : Df} {H H' : Heap U} {π π' : Plc} {w w' : World} {a a' : Act} {nt : Nat} {l : Nat} {r : Option Code → Loop} {o1 o2 : Obj} {w1 : World}
    (h : St B fr df H π w a) (hn : noPend df = true) (hw1 : w1 = (w.alloc (.deferred (some []))).alloc o1) (hl : l = w.heap.size + 1) (k : St (Base.lp π H w1 nt h.fresh l r) fr' df' H' π' w' a') :
    St B fr (.mark :: df) H' π' (w'.putObj l o2) { a with defers := [{ target := .collected w.heap.size, args := #[] }] ++ a.defers } := by
  have hsub : Sub π π' := k.sub
  have hk1 : Keeps (fun _ => False) w w1 := by rw [hw1]; exact (Keeps.alloc _ w _).trans (Keeps.alloc _ _ _) fun _ _ h => h
  have hkk : Keeps (fun n => Owned π H n ∨ n = l) w (w'.putObj l o2) :=
    ((hk1.weaken fun _ _ hh => hh.elim).trans k.keeps fun n _ ho => ho).trans (keeps_put w' l o2) fun n _ hh => .inr hh
  -- what stands of blocks of another kind
  have hother : ∀ (n : Nat) (o : Obj), w.heap[n]? = some o → ¬ plainObj o → (w'.putObj l o2).heap[n]? = some o := by
    intro n o ho hp
    have hnlt : n < w.heap.size := (Array.getElem?_eq_some_iff.1 ho).1
    rw [hkk.block n hnlt fun hh => ?_]; exact ho
    rcases hh with hh | hh
    · obtain ⟨o', ho', hp'⟩ := hh.obj h.conc
      rw [ho] at ho'; cases ho'; exact hp hp'
    · omega
  have hD : (w'.putObj l o2).heap[w.heap.size]? = some (Obj.deferred (some [])) := by
    have h1 : w1.heap[w.heap.size]? = some (Obj.deferred (some [])) := by
      rw [hw1]
      show (((w.heap.push _).push _) : Array Obj)[w.heap.size]? = _
      rw [Array.getElem?_push, if_neg (by simp), Array.getElem?_push, if_pos rfl]
    rw [World.putObj_heap_other (by omega), k.keeps.block _ (by show w.heap.size < w1.heap.size; rw [hw1, World.size_alloc, World.size_alloc]; omega) fun hh => ?_]
    · exact h1
    · rcases hh with hh | hh
      · obtain ⟨o', ho', _⟩ := hh.obj h.conc
        have := (Array.getElem?_eq_some_iff.1 ho').1; omega
      · have : w.heap.size = l := hh
        omega
  exact
    { fr := h.fr.mono hsub
      conc := k.conc.putObj k.j not_plain_loop
      fresh := k.fresh
      only := fun id j hi => (k.only id j (Nat.lt_of_lt_of_le hi h.len)).trans (h.only id j hi)
      keeps := h.keeps.trans hkk fun n hn ho => by
        rcases ho with ho | ho
        · exact .inl ((h.own n ho).resolve_right (by omega))
        · have := h.keeps.size; omega
      own := fun n hn => by
        rcases k.own n hn with h1 | h1
        · exact h.own n h1
        · have h1' : w1.heap.size ≤ n := h1
          have := hk1.size; have := h.keeps.size; exact .inr (by omega)
      nt := h.nt
      j := by
        show B.J none _
        rw [← noPend_ok hn]
        refine B.Jk _ _ _ (fun n hx => ?_) h.j
        obtain ⟨o, ho, hp⟩ := B.Jx _ _ n h.j hx
        rw [ho]; exact hother n o ho hp
      df := ⟨w.heap.size, a.defers, rfl, hD, h.keeps.size, fun d hd e => by have := h.df.lt d hd _ e; omega, h.df.mono hsub fun D hD => hother D _ hD not_plain_deferred⟩
      len := Nat.le_trans h.len k.len }

theorem putsF_ok {π : Plc} : ∀ {ps : List Nat} {xs : List AV} {vs : List Value} {fr fr' : Fr} {tmps : Array Value}, putsF ps xs fr = some fr' → RepL π xs vs → (∀ t ∈ ps, t < tmps.size) → FrOk π fr tmps →
    vs.length = ps.length ∧ FrOk π fr' ((ps.zip vs).foldl (fun tmps (t, a) => tmps.setIfInBounds t a) tmps) ∧ ((ps.zip vs).foldl (fun tmps (t, a) => tmps.setIfInBounds t a) tmps).size = tmps.size
  | [], [], vs, fr, fr', tmps, h, hr, _, hf => by
    simp only [putsF, Option.some.injEq] at h; subst h
    have := hr.length
    have hv : vs = [] := List.eq_nil_of_length_eq_zero (by simpa using this)
    subst hv; exact ⟨rfl, hf, rfl⟩
  | [], _ :: _, vs, fr, fr', tmps, h, _, _, _ => by simp [putsF] at h
  | _ :: _, [], vs, fr, fr', tmps, h, _, _, _ => by simp [putsF] at h
  | t :: ts, x :: xs, vs, fr, fr', tmps, h, hr, hb, hf => by
    simp only [putsF] at h
    simp only [RepL] at hr
    obtain ⟨y, ys, rfl, hy, hys⟩ := hr
    have hf' : FrOk π ((t, x) :: fr) (tmps.setIfInBounds t y) := by
      intro t'
      rw [Fr.get_cons, Array.getD_eq_getD_getElem?]
      split
      · rename_i e; subst e
        rw [Array.getElem?_setIfInBounds_self_of_lt (hb _ (List.mem_cons_self ..))]; exact hy
      · rename_i e
        rw [Array.getElem?_setIfInBounds_ne e, ← Array.getD_eq_getD_getElem?]; exact hf t'
    obtain ⟨h1, h2, h3⟩ := putsF_ok h hys (fun t' ht' => by rw [Array.size_setIfInBounds]; exact hb _ (List.mem_cons_of_mem _ ht')) hf'
    refine ⟨by simp [h1], ?_, ?_⟩
    · simpa using h2
    · simpa using h3

/-- What an iterator is. -/
structure ItOk (P : Program) (it : ItW U) : Prop where
  fn : P.funcs[it.g]? = some it.fn
  body : it.fn.body = some (bodyOf it.fn)
  res : it.fn.results = #[]
  enters : ∀ args w, (callFunc it.g args).run P w = .ok (.enter it.g args) w
  walk : ∀ Y l fr (H : Heap U) K, it.run Y l H.length fr H K → ∀ (B : Base U) n, B.nt = it.fn.ntmps → B.H.length = H.length → YOk P l Y B none n → ∀ π w a, St B fr [] H π w a → (bodyOf it.fn).wpIn (Fw none) n P (QOf B K) a w

theorem itEndK_ok {K : Ex → Fr → Df → Heap U → Prop} {fr : Fr} {df : Df} {e : Ex} {fr2 : Fr} {df2 : Df} {H2 : Heap U} (h : itEndK K fr df e fr2 df2 H2) : (df2 = [] ∧ K .nrm fr (.mark :: df) H2) ∨ ∃ j, df2 = [.pend j] ∧ jumpK K j fr (.mark :: df) H2 := by
  unfold itEndK at h
  split at h
  · exact .inl ⟨rfl, h⟩
  · exact .inl ⟨rfl, h⟩
  · exact .inr ⟨_, rfl, h⟩
  · exact .inr ⟨_, rfl, h⟩
  · exact h.elim

/-- A scope from which nothing jumps to a label. -/
theorem wpIn_scope' {F : Fence} {n : Nat} {P : Program} {c : Code} {Q : Exit → Act → World → Prop} {a : Act} {w : World} (h : c.wpIn F n P (Exit.noGoto Q) a w) : (Code.scope c).wpIn F n P Q a w := by
  intro b k cs hro hb hr
  have h0 : (lone (b.atR a (.code (.scope c) :: k)) cs w).fenced P F := fenced_calm hb hr rfl
  have hs0 : step P (lone (b.atR a (.code (.scope c) :: k)) cs w) = .next (lone (b.atR a (.code c :: .inScope c :: k)) cs w) :=
    step_lone_go (by simp [stepG, stepG.exec, Frame.atR])
  obtain ⟨e, a1, w1, hq, harr⟩ := h b (.inScope c :: k) cs hro hb hr
  have hs1 : step P (lone (b.atR a1 (.inScope c :: k)) cs w1) = .next (lone (b.atR a1 k) cs w1) :=
    step_lone_go (by simp [stepG, stepG.exec, Frame.atR])
  cases e with
  | normal => exact ⟨.normal, a1, w1, hq, .head h0 hs0 (StepsIn.trans harr (.one (fenced_calm hb hr rfl) hs1))⟩
  | goto l => exact hq.elim
  | exit i =>
    have hx : exitTo i (.inScope c :: k) = exitTo i k := by simp [exitTo]
    exact ⟨_, a1, w1, hq, fun k' hk => .head h0 hs0 (harr.1 k' (by rw [hx]; exact hk)),
      fun hr' hk => let ⟨k1, h1, h2⟩ := harr.2 hr' (by rw [hx]; exact hk); ⟨k1, h1, .head h0 hs0 h2⟩⟩
  | ret => exact ⟨_, a1, w1, hq, .of_steps (.one h0 hs0) harr⟩
  | panic ch => exact ⟨_, a1, w1, hq, .of_steps (.one h0 hs0) harr⟩
  | outgrown => exact ⟨_, a1, w1, hq, .of_steps (.one h0 hs0) harr⟩

theorem wpIn_jump {F : Fence} {n : Nat} {P : Program} {B : Base U} {K : Ex → Fr → Df → Heap U → Prop} {j : Code} {fr : Fr} {df : Df} {H : Heap U} {π : Plc} {w : World} {a : Act} (h : jumpK K j fr df H) (hS : St B fr df H π w a) : j.wpIn F n P (QOf B K) a w := by
  cases j <;> simp only [jumpK] at h <;> try exact h.elim
  · exact wpIn_exit ⟨_, _, _, _, h, hS⟩
  · exact wpIn_goto ⟨_, _, _, _, h, hS⟩
  · exact wpIn_ret ⟨_, _, _, _, h, hS⟩

/-- What a code does. -/
theorem wpA_go : ∀ (c : Code) {E : Env U} (hm : E.P.follows .mixedOrders = true) (hT : E.T.Sound E.P) {B : Base U} (hnt : B.nt = E.nt) {C : Cfg U} (hIt : ∀ k it, C.it k = some it → ItOk E.P it) (hCm : C.m = B.H.length) {rd : Option Nat} (hrd : C.rnd = false → rd = none) {n : Nat} (hY : YOk E.P E.l E.Y B rd n)
    (fr : Fr) (df : Df) (H : Heap U) (K : Ex → Fr → Df → Heap U → Prop), wpA E C c fr df H K → ∀ (π : Plc) (w : World) (a : Act), St B fr df H π w a → c.wpIn (Fw rd) n E.P (QOf B K) a w := by
  intro c
  induction c with
  | skip => intro E hm hT B hnt C hIt hCm rd hrd n hY fr df H K h π w a hS; exact wpIn_skip ⟨fr, df, H, π, h, hS⟩
  | label l => intro E hm hT B hnt C hIt hCm rd hrd n hY fr df H K h π w a hS; exact wpIn_label ⟨fr, df, H, π, h, hS⟩
  | exit i => intro E hm hT B hnt C hIt hCm rd hrd n hY fr df H K h π w a hS; exact wpIn_exit ⟨fr, df, H, π, h, hS⟩
  | goto i => intro E hm hT B hnt C hIt hCm rd hrd n hY fr df H K h π w a hS; exact wpIn_goto ⟨fr, df, H, π, h, hS⟩
  | ret => intro E hm hT B hnt C hIt hCm rd hrd n hY fr df H K h π w a hS; exact wpIn_ret ⟨fr, df, H, π, h, hS⟩
  | scope c ih =>
    intro E hm hT B hnt C hIt hCm rd hrd n hY fr df H K h π w a hS
    unfold wpA at h
    refine wpIn_scope' (Go.wpIn_mono (ih hm hT hnt hIt hCm hrd hY _ _ _ _ h π w a hS) fun e a' w' q => ?_)
    cases e with
    | goto i => obtain ⟨fr, df, H, π, hk, hs⟩ := q; exact hk.elim
    | normal => exact q
    | exit i => exact q
    | ret => exact q
    | panic ch => exact q
    | outgrown => exact q
  | rangeFunc f ps assign body ih1 ih2 =>
    intro E hm hT B hnt C hIt hCm rd hrd n hY fr df H K h π w a hS
    unfold wpA at h
    split at h
    case h_2 => exact h.elim
    rename_i g caps it hf hit
    obtain ⟨hb, hwalk⟩ := isB_ok h
    clear h
    simp only [Bool.and_eq_true] at hb
    obtain ⟨⟨⟨⟨h1, hnp⟩, h3⟩, h4⟩, h5⟩ := hb
    have hrdn := hrd (by simpa using h1)
    subst hrdn
    have hio := hIt _ _ hit
    have hg : g = it.g := Nat.eq_of_beq_eq_true h3
    subst hg
    have hps : ∀ t ∈ ps.toList, t < E.nt := fun t ht => by
      have := List.all_eq_true.1 h4 t ht
      simpa using this
    have h5' : caps.length + 1 ≤ it.fn.ntmps := by simpa using h5
    have hv := hS.fr.eval f
    rw [hf] at hv
    simp only [Rep, RepL] at hv
    obtain ⟨va, vb, e, e1, e2⟩ := hv
    have hva : va = #[] := by apply Array.toList_inj.1; simpa using e1
    subst hva
    refine wpIn_rangeFunc fun fn _ => ?_
    let recOf : Option Code → Loop := fun p => { state := if p.isNone then .ready else .done, pending := p, fn := fn, tmps := a.tmps, params := ps, assign := assign, body := body, defers := w.heap.size }
    let busy : Loop := { recOf none with state := .busy }
    generalize hl : w.heap.size + 1 = l
    generalize hw1 : (w.alloc (.deferred (some []))).alloc (.loop (recOf none)) = w1
    have hres : (resolve a.eval (rangeCall f l) 0).run E.P w1 = .ok { target := .fn (.func it.g) vb, args := #[Value.func (.yield l) #[] #[]] } w1 := by
      have harr : (#[] : Array Value) ++ (#[Operand.const (.func (.yield l) #[] #[])] : Array Operand).map a.eval = #[Value.func (.yield l) #[] #[]] := by simp; rfl
      simp only [resolve, rangeCall, e, Deferred.ofValue, Sem.run_bind, Sem.run_pure, Result.andThen_ok, harr]
    refine ⟨l, [{ target := .collected w.heap.size, args := #[] }], w1, { target := .fn (.func it.g) vb, args := #[Value.func (.yield l) #[] #[]] }, w1, it.g, #[Value.func (.yield l) #[] #[]] ++ vb, w1, ?_, hres, fun _ _ => trivial, (by show (callFunc it.g _).run E.P w1 = _; exact hio.enters _ _), fun hh => by simp [Fw, Fence.wide] at hh, ?_⟩
    · rw [← hl, ← hw1]; exact run_enterLoop_outer fn a.tmps ps assign body
    have hk1 : Keeps (fun _ => False) w w1 := by rw [← hw1]; exact (Keeps.alloc _ w _).trans (Keeps.alloc _ _ _) fun _ _ h => h
    have hrec : w1.heap[l]? = some (.loop (recOf none)) := by
      rw [← hw1, ← hl]
      have := World.alloc_heap_new (w.alloc (.deferred (some []))) (.loop (recOf none))
      rwa [World.size_alloc] at this
    let Bi : Base U := Base.lp π H w1 it.fn.ntmps hS.fresh l recOf
    have hlen := e2.length
    -- the iterator begins
    have hstart : St Bi (frameOf 0 (.fn (.yield l) [] [] :: caps)) [] H π w1 { tmps := (#[Value.func (.yield l) #[] #[]] ++ vb) ++ Array.replicate (it.fn.ntmps - (#[Value.func (.yield l) #[] #[]] ++ vb : Array Value).size) undef, defers := [] } := by
      refine ⟨frameOf_ok fun j x hx => ?_, hS.conc.keep (Sub.refl π) fun id k b p hb hpl hph => ?_, hS.fresh, fun _ _ _ => rfl, Keeps.refl _ _, fun _ h => .inl h, ?_, hrec, rfl, Nat.le_refl _⟩
      · rw [Nat.zero_add]
        cases j with
        | zero =>
          simp only [List.getElem?_cons_zero, Option.some.injEq] at hx
          subst hx
          simp [Rep, RepL, Array.getD_eq_getD_getElem?]
          rw [Array.getElem?_append_left (by simp)]; rfl
        | succ j =>
          obtain ⟨y, hy, hr⟩ := e2.get (by simpa using hx)
          have hj : j < vb.size := by have := (List.getElem?_eq_some_iff.1 hy).1; simpa using this
          have : ((#[Value.func (.yield l) #[] #[]] ++ vb) ++ Array.replicate (it.fn.ntmps - (#[Value.func (.yield l) #[] #[]] ++ vb : Array Value).size) undef).getD (j + 1) undef = y := by
            rw [Array.getD_eq_getD_getElem?, Array.getElem?_append_left (by simp; omega), Array.getElem?_append_right (by simp)]
            simp only [List.size_toArray, List.length_singleton, Nat.add_sub_cancel]
            rw [Array.getElem?_toList] at hy
            rw [hy]; rfl
          rw [this]; exact hr
      · obtain ⟨p', hp', hok⟩ := hS.conc.ok id k b hb
        rw [hpl] at hp'; cases hp'
        exact hk1.block _ (hok.lt hph) fun h => h
      · have hvl : vb.size = caps.length := by rw [← Array.length_toList]; exact hlen
        show _ = it.fn.ntmps
        simp only [Array.size_append, List.size_toArray, List.length_singleton, Array.size_replicate]
        omega
    -- its calls of yield
    have hyield : YOk E.P l (fun args Hy Ky => match putsF ps.toList args fr with
          | some fr1 => wpA { E with Y := fun _ _ _ => False } { C with rnd := true, m := Hy.length } assign fr1 [] Hy fun
            | .nrm, fr2, df2, H2 => sameDf df2 [] ∧ wpA { E with Y := fun _ _ _ => False } { C with rnd := true, m := Hy.length } body fr2 [] H2 (roundK Ky)
            | _, _, _, _ => False
          | none => False) Bi none (n - 1) := by
      intro args Hy Ky hy vs πy wy ay hSy hvs
      simp only at hy
      split at hy
      case h_2 => exact hy.elim
      rename_i fr1 hp
      have hfr : FrOk πy fr a.tmps := hS.fr.mono hSy.sub
      have hnta : a.tmps.size = E.nt := hS.nt.trans hnt
      obtain ⟨hl1, hfr1, hsz⟩ := putsF_ok hp hvs (fun t ht => by rw [hnta]; exact hps t ht) hfr
      have hvsz : vs.size = ps.size := by simpa using hl1
      have hzip : (ps.zip vs).foldl (fun tmps (t, a) => tmps.setIfInBounds t a) a.tmps = (ps.toList.zip vs.toList).foldl (fun tmps (t, a) => tmps.setIfInBounds t a) a.tmps := by
        rw [← Array.foldl_toList, Array.toList_zip]
      refine ⟨fn, _, assign, body, run_yield (r := recOf none) hSy.j hvsz, ?_⟩
      refine roundIn_of_wpIn trivial ?_
      show assign.wpIn (Fw (some l)) _ _ _ _ _
      have hSa : St (Base.lp πy Hy wy E.nt hSy.fresh l recOf) fr1 [] Hy πy wy { tmps := (ps.zip vs).foldl (fun tmps (t, a) => tmps.setIfInBounds t a) a.tmps, defers := [] } := by
        rw [hzip]
        exact ⟨hfr1, hSy.conc, hSy.fresh, fun _ _ _ => rfl, Keeps.refl _ _, fun _ h => .inl h, hsz.trans hnta, hSy.j, rfl, Nat.le_refl _⟩
      refine Go.wpIn_mono (ih1 (E := { E with Y := fun _ _ _ => False }) hm hT (B := Base.lp πy Hy wy E.nt hSy.fresh l recOf) rfl (C := { C with rnd := true, m := Hy.length }) hIt rfl (rd := some l) (fun h => by cases h) (fun _ _ _ h => h.elim) _ _ _ _ hy πy wy _ hSa) fun e a1 w2 q => ?_
      cases e with
      | normal =>
        obtain ⟨fr2, df2, H2, π2, ⟨hd2, hk2⟩, hs2⟩ := q
        cases sameDf_ok hd2
        refine ⟨_, run_beginRound (r := recOf none) hs2.j rfl, ?_⟩
        have hs3 : St (Base.lp πy Hy wy E.nt hSy.fresh l (fun _ => busy)) fr2 [] H2 π2 (w2.putObj l (.loop busy)) a1 := hs2.put
        refine Go.wpIn_mono (ih2 (E := { E with Y := fun _ _ _ => False }) hm hT (B := Base.lp πy Hy wy E.nt hSy.fresh l (fun _ => busy)) rfl (C := { C with rnd := true, m := Hy.length }) hIt rfl (rd := some l) (fun h => by cases h) (fun _ _ _ h => h.elim) _ _ _ _ hk2 π2 _ _ hs3) fun e a3 w4 q => ?_
        cases e with
        | normal =>
          obtain ⟨fr4, df4, H4, π4, ⟨hd4, hk4⟩, hs4⟩ := q
          cases sameDf_ok hd4
          exact ⟨_, _, run_endRound (r := busy) none hs4.j, _, .tt, none, H4, π4, rfl, by simp [Rep], hk4, hs4.sub, hSy.back hs4⟩
        | ret =>
          obtain ⟨fr4, df4, H4, π4, ⟨hd4, hk4⟩, hs4⟩ := q
          cases sameDf_ok hd4
          exact ⟨_, _, run_endRound (r := busy) (some .ret) hs4.j, _, .ff, some .ret, H4, π4, rfl, by simp [Rep], hk4, hs4.sub, hSy.back hs4⟩
        | exit i =>
          obtain ⟨fr4, df4, H4, π4, ⟨hd4, hk4⟩, hs4⟩ := q
          cases sameDf_ok hd4
          exact ⟨_, _, run_endRound (r := busy) (some (.exit i)) hs4.j, _, .ff, some (.exit i), H4, π4, rfl, by simp [Rep], hk4, hs4.sub, hSy.back hs4⟩
        | goto i =>
          obtain ⟨fr4, df4, H4, π4, ⟨hd4, hk4⟩, hs4⟩ := q
          cases sameDf_ok hd4
          exact ⟨_, _, run_endRound (r := busy) (some (.goto i)) hs4.j, _, .ff, some (.goto i), H4, π4, rfl, by simp [Rep], hk4, hs4.sub, hSy.back hs4⟩
        | panic ch => obtain ⟨x, y, fr4, df4, H4, π4, _, ⟨_, hk4⟩, _⟩ := q; exact hk4.elim
        | outgrown => exact q.elim
      | exit i => obtain ⟨_, _, _, _, hk, _⟩ := q; exact hk.elim
      | goto i => obtain ⟨_, _, _, _, hk, _⟩ := q; exact hk.elim
      | ret => obtain ⟨_, _, _, _, hk, _⟩ := q; exact hk.elim
      | panic ch => obtain ⟨_, _, _, _, _, _, _, hk, _⟩ := q; exact hk.elim
      | outgrown => exact q.elim
    refine callsIn_of_wp hio.fn hio.body trivial (Go.wpIn_mono (hio.walk _ _ _ _ _ (hwalk l) Bi (n - 1) rfl rfl hyield π w1 _ hstart) fun e a' w' q => ?_)
    have hrun : ∀ tmps, (results it.fn tmps).run E.P w' = .ok (.tuple #[]) w' := by
      intro tmps
      simp [results, hio.res]
    have fin : ∀ (e : Ex) fr2 df2 H2 π2, (e = .nrm ∨ e = .ret) → itEndK K fr df e fr2 df2 H2 → St Bi fr2 df2 H2 π2 w' a' → a'.defers = [] ∧ ∃ v, (results it.fn a'.tmps).run E.P w' = .ok v w' ∧ rangePost (Fw none) n E.P l (QOf B K) { a with defers := [{ target := .collected w.heap.size, args := #[] }] ++ a.defers } (.returned v) w' := by
      intro e fr2 df2 H2 π2 he hk hs
      rcases itEndK_ok hk with ⟨rfl, hkk⟩ | ⟨j, rfl, hkk⟩
      · refine ⟨hs.df, _, hrun _, none, _, run_endLoop (r := recOf none) hs.j (by simp [recOf]), _, _, _, π2, hkk, ?_⟩
        exact hS.out (o1 := .loop (recOf none)) hnp hw1.symm hl.symm hs
      · refine ⟨hs.df, _, hrun _, some j, _, run_endLoop (r := recOf (some j)) hs.j (by simp [recOf]), ?_⟩
        exact wpIn_jump hkk (hS.out (o1 := .loop (recOf none)) hnp hw1.symm hl.symm hs)
    cases e with
    | normal => obtain ⟨fr2, df2, H2, π2, hk, hs⟩ := q; exact fin .nrm _ _ _ _ (.inl rfl) hk hs
    | ret => obtain ⟨fr2, df2, H2, π2, hk, hs⟩ := q; exact fin .ret _ _ _ _ (.inr rfl) hk hs
    | exit i => obtain ⟨_, _, _, _, hk, _⟩ := q; exact hk.elim
    | goto i => obtain ⟨_, _, _, _, hk, _⟩ := q; exact hk.elim
    | panic ch => obtain ⟨_, _, _, _, _, _, _, hk, _⟩ := q; exact hk.elim
    | outgrown => exact q.elim
  | refuse s => intro E hm hT B hnt C hIt hCm rd hrd n hY fr df H K h; exact h.elim
  | region id ops draw =>
    intro E hm hT B hnt C hIt hCm rd hrd n hY fr df H K h π w a hS
    unfold wpA at h
    cases draw with
    | false =>
      refine wpIn_region ?_
      rw [List.range_eq_range']
      have := seqA_ok (K' := fun e => match e with | .nrm => spK (C.sp id) (worked K .nrm) | e => worked K e) hT hnt hrd hY (n := n) ops.toList 0 fr df H rfl h π w a hS
      refine wpOpsIn_mono' (fun e a' w' q => ?_) (by simpa using this)
      cases e with
      | normal => obtain ⟨fr, df, H, π, hk, hs⟩ := q; obtain ⟨fr', hk', hs'⟩ := spK_ok hk hs; exact ⟨fr', df, H, π, worked_ok hk', hs'⟩
      | exit i => obtain ⟨fr, df, H, π, hk, hs⟩ := q; exact ⟨fr, df, H, π, worked_ok hk, hs⟩
      | goto i => obtain ⟨fr, df, H, π, hk, hs⟩ := q; exact ⟨fr, df, H, π, worked_ok hk, hs⟩
      | ret => obtain ⟨fr, df, H, π, hk, hs⟩ := q; exact ⟨fr, df, H, π, worked_ok hk, hs⟩
      | panic ch => obtain ⟨x, y, fr, df, H, π, he, hk, hr, hs⟩ := q; exact ⟨x, y, fr, df, H, π, he, worked_ok hk, hr, hs⟩
      | outgrown => exact q
    | true =>
      have hT0 : TblOk E.P E.nt ops.toList fr H ([] : List (Ent U)) := fun i e h => by simp at h
      have hV0 : VwsOk ([] : List (Ent U)) [] := ⟨rfl, fun i e v h => by simp at h⟩
      have hd := drawGo_ok hT ops.toList [] [] none (by simp) (by simp) hT0 hV0 (fun e he => by simp at he) h
      exact region_ok hm hd (by rw [hS.nt, hnt]) hS.fr hS.conc hS.fresh (fun fr' H' π' w' a' hk hs => ⟨fr', df, H', π', worked_ok hk, hS.step hs⟩)
        (fun x H' π' w' a' y hk hs hr => ⟨x, y, jkF ops.toList fr, df, H', π', rfl, worked_ok hk, hr, hS.step hs⟩)
  | seq x y ihx ihy =>
    intro E hm hT B hnt C hIt hCm rd hrd n hY fr df H K h π w a hS
    unfold wpA at h
    refine wpIn_seq (Go.wpIn_mono (ihx hm hT hnt hIt hCm hrd hY _ _ _ _ h π w a hS) fun e a' w' q => ?_)
    cases e with
    | normal => obtain ⟨fr, df, H, π, hk, hs⟩ := q; exact ihy hm hT hnt hIt hCm hrd hY _ _ _ _ hk π w' a' hs
    | exit i => exact q
    | goto i => exact q
    | ret => exact q
    | panic ch => exact q
    | outgrown => exact q
  | cond c x y ihx ihy =>
    intro E hm hT B hnt C hIt hCm rd hrd n hY fr df H K h π w a hS
    unfold wpA at h
    have hr := hS.fr.eval c
    split at h
    · rename_i hv
      rw [hv] at hr
      exact wpIn_cond_true (by simpa [Rep] using hr) (ihx hm hT hnt hIt hCm hrd hY _ _ _ _ h π w a hS)
    · rename_i hv
      rw [hv] at hr
      exact wpIn_cond_false (by simpa [Rep] using hr) (ihy hm hT hnt hIt hCm hrd hY _ _ _ _ h π w a hS)
    · rename_i b hv
      rw [hv] at hr
      have hb : a.eval c = .bool b := by simpa [Rep] using hr
      split at h
      · rename_i t
        refine wpIn_cond_split hb (fun ht => ?_) (fun ht => ?_)
        · subst ht
          exact ihx hm hT hnt hIt hCm hrd hY _ _ _ _ (h.1 rfl) π w a { hS with fr := hS.fr.ref (by rw [Rep]; exact hb) }
        · subst ht
          exact ihy hm hT hnt hIt hCm hrd hY _ _ _ _ (h.2 rfl) π w a { hS with fr := hS.fr.ref (by rw [Rep]; exact hb) }
      · exact h.elim
    · exact h.elim
  | block id c ih =>
    intro E hm hT B hnt C hIt hCm rd hrd n hY fr df H K h π w a hS
    unfold wpA at h
    refine wpIn_block (Go.wpIn_mono (ih hm hT hnt hIt hCm hrd hY _ _ _ _ h π w a hS) fun e a' w' q => ?_)
    cases e with
    | exit i =>
      obtain ⟨fr, df, H, π, hk, hs⟩ := q
      simp only at hk
      simp only [Exit.inBlock]
      split at hk
      · rename_i e _; rw [if_pos e]; exact ⟨fr, df, H, π, hk, hs⟩
      · rename_i e _; rw [if_neg e]; exact ⟨fr, df, H, π, hk, hs⟩
    | normal => exact q
    | goto i => exact q
    | ret => exact q
    | panic ch => exact q
    | outgrown => exact q
  | loop c ih =>
    intro E hm hT B hnt C hIt hCm rd hrd n hY fr df H K h π w a hS
    unfold wpA at h
    split at h
    · exact h.elim
    · rename_i k hk
      refine wpIn_loop_rel (fun j a w => ∃ fr df H π, unrA (wpA E C c) K j fr df H ∧ St B fr df H π w a) (fun j a w ⟨fr, df, H, π, h, hS⟩ => ?_) (j := k) ⟨fr, df, H, π, h, hS⟩
      cases j with
      | zero => exact h.elim
      | succ j =>
        unfold unrA at h
        refine Go.wpIn_mono (ih hm hT hnt hIt hCm hrd hY _ _ _ _ h π w a hS) fun e a' w' q => ?_
        cases e with
        | normal => obtain ⟨fr, df, H, π, hk, hs⟩ := q; exact ⟨j, by omega, fr, df, H, π, hk, hs⟩
        | exit i => exact q
        | goto i => exact q
        | ret => exact q
        | panic ch => exact q
        | outgrown => exact q
    · rename_i s hs
      obtain ⟨⟨t, ht⟩, hround⟩ := h
      rw [hCm] at ht
      obtain ⟨π', hS'⟩ := weakN_ok ht hS
      refine wpIn_loop_rel (fun j a w => ∃ t π, s.mu t = j ∧ St B (s.fr t) df (s.H t) π w a) (fun j a w ⟨t, π, hj, hS⟩ => ?_) ⟨t, π', rfl, hS'⟩
      refine Go.wpIn_mono (ih hm hT hnt hIt hCm hrd hY _ _ _ _ (hround t) π w a hS) fun e a' w' q => ?_
      cases e with
      | normal =>
        obtain ⟨fr, df', H, π, ⟨hdf, t', hw, hlt⟩, hs⟩ := q
        cases sameDf_ok hdf
        rw [hCm] at hw
        obtain ⟨π', hs'⟩ := weakN_ok hw hs
        exact ⟨s.mu t', by omega, t', π', rfl, hs'⟩
      | exit i => exact q
      | goto i => exact q
      | ret => exact q
      | panic ch => exact q
      | outgrown => exact q
    · rename_i s rel hs
      obtain ⟨t0, ht, hr0, hround⟩ := h
      rw [hCm] at ht
      obtain ⟨π', hS'⟩ := weakN_ok ht hS
      refine wpIn_loop_rel (fun j a w => ∃ t π, s.mu t = j ∧ rel t0 t ∧ St B (s.fr t) df (s.H t) π w a) (fun j a w ⟨t, π, hj, hr, hS⟩ => ?_) ⟨t0, π', rfl, hr0, hS'⟩
      refine Go.wpIn_mono (ih hm hT hnt hIt hCm hrd hY _ _ _ _ (hround t hr) π w a hS) fun e a' w' q => ?_
      cases e with
      | normal =>
        obtain ⟨fr, df', H, π, ⟨hdf, t', hw, hlt, hr'⟩, hs⟩ := q
        cases sameDf_ok hdf
        rw [hCm] at hw
        obtain ⟨π', hs'⟩ := weakN_ok hw hs
        exact ⟨s.mu t', by omega, t', π', rfl, hr', hs'⟩
      | exit i => exact q
      | goto i => exact q
      | ret => exact q
      | panic ch => exact q
      | outgrown => exact q

theorem wpA_ok {E : Env U} (hm : E.P.follows .mixedOrders = true) (hT : E.T.Sound E.P) {B : Base U} (hnt : B.nt = E.nt) {C : Cfg U} (hIt : ∀ k it, C.it k = some it → ItOk E.P it) (hCm : C.m = B.H.length) {rd : Option Nat} (hrd : C.rnd = false → rd = none) {n : Nat} (hY : YOk E.P E.l E.Y B rd n)
    (c : Code) (fr : Fr) (df : Df) (H : Heap U) (K : Ex → Fr → Df → Heap U → Prop) (h : wpA E C c fr df H K) (π : Plc) (w : World) (a : Act) (hS : St B fr df H π w a) : c.wpIn (Fw rd) n E.P (QOf B K) a w := wpA_go c hm hT hnt hIt hCm hrd hY fr df H K h π w a hS
end AE
