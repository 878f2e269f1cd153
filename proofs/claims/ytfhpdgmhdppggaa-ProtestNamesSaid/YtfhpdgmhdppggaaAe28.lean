/- An own symbolic executor: functions. No condition. -/
import Derived.Test.YtfhpdgmhdppggaaAe27
import Derived.Recover
import Derived.RangeFuncLeaves
namespace AE
open Go

variable {U : Uni}

/-! ### what a function hands back -/
def varA (P : Program) (t : TypeId) (x : AV) (H : Heap U) (K : AV → Prop) : Prop :=
  match x with
  | .ptr id k i fo =>
    match aggT P t with
    | some true => match tsize P t with
      | some n => H.rd id k i fo n fun cs => K (.agg cs)
      | none => False
    | some false => H.rd id k i fo 1 fun
      | [y] => K y
      | _ => False
    | none => False
  | _ => False

theorem varA_ok {P : Program} {t : TypeId} {x : AV} {H : Heap U} {K : AV → Prop} (h : varA P t x H K) : ∃ z, K z ∧ ∀ (π : Plc) (w : World) (y : Value), Conc π H w → Rep π x y → ∃ v, (do loadVar t (← asAddr y) : Sem Value).run P w = .ok v w ∧ Rep π z v := by
  unfold varA at h
  split at h
  case h_2 => exact h.elim
  rename_i id k i fo
  split at h
  · rename_i hagg
    split at h
    case h_2 => exact h.elim
    rename_i n hn
    obtain ⟨cs, hK, hl, hrd⟩ := Heap.rd_ok h
    refine ⟨_, hK, fun π w y hc hv => ?_⟩
    obtain ⟨p, ys, hp, hr, hcell⟩ := hrd π w hc
    simp only [Rep] at hv
    obtain ⟨p', hp', hv⟩ := hv
    rw [hp] at hp'; cases hp'
    refine ⟨.agg ys.toArray, ?_, by simp only [Rep]; exact ⟨_, rfl, by simpa using hr⟩⟩
    have hlen : ys.length = n := by rw [hr.length, hl]
    have hload := run_loadCells_list (P := P) w ⟨p.blk, p.off + i * p.esz + fo, none⟩ ys hcell
    rw [hlen] at hload
    simp [hv, asAddr, loadVar, run_isAgg hagg, run_size hn, hload]
  · rename_i hagg
    obtain ⟨cs, hK, hl, hrd⟩ := Heap.rd_ok h
    match cs, hl, hK, hrd with
    | [y], _, hK, hrd =>
      refine ⟨_, hK, fun π w yv hc hv => ?_⟩
      obtain ⟨p, ys, hp, hr, hcell⟩ := hrd π w hc
      simp only [Rep] at hv
      obtain ⟨p', hp', hv⟩ := hv
      rw [hp] at hp'; cases hp'
      simp only [RepL] at hr
      obtain ⟨z, zs, rfl, hz, hzs⟩ := hr
      have h0 := hcell 0 z (by simp)
      rw [Addr.add_eq, Nat.add_zero] at h0
      refine ⟨z, ?_, hz⟩
      simp [hv, asAddr, loadVar, run_isAgg hagg, h0]
  · exact h.elim

def resA (P : Program) : List ResultVar → Fr → Heap U → (List AV → Prop) → Prop
  | [], _, _, K => K []
  | .tmp t :: l, fr, H, K => resA P l fr H fun xs => K (fr.get t :: xs)
  | .cell a t :: l, fr, H, K => varA P t (fr.get a) H fun x => resA P l fr H fun xs => K (x :: xs)

theorem resA_ok {P : Program} : ∀ {l : List ResultVar} {fr : Fr} {H : Heap U} {K : List AV → Prop}, resA P l fr H K → ∃ xs, K xs ∧ ∀ (π : Plc) (w : World) (tmps : Array Value), Conc π H w → FrOk π fr tmps →
    ∃ vs : List Value, (l.mapM fun
      | .tmp t => pure (tmps.getD t undef)
      | .cell a t => do loadVar t (← asAddr (tmps.getD a undef)) : Sem (List Value)).run P w = .ok vs w ∧ RepL π xs vs
  | [], fr, H, K, h => ⟨[], h, fun π w tmps _ _ => ⟨[], by simp, RepL.nil π⟩⟩
  | .tmp t :: l, fr, H, K, h => by
    unfold resA at h
    obtain ⟨xs, hK, hh⟩ := resA_ok h
    refine ⟨_, hK, fun π w tmps hc hf => ?_⟩
    obtain ⟨vs, hr, hv⟩ := hh π w tmps hc hf
    refine ⟨tmps.getD t undef :: vs, ?_, RepL.cons (hf t) hv⟩
    rw [List.mapM_cons]
    simp only [pure_bind, Sem.run_bind, hr]
    rfl
  | .cell a t :: l, fr, H, K, h => by
    unfold resA at h
    obtain ⟨x, h, hx⟩ := varA_ok h
    obtain ⟨xs, hK, hh⟩ := resA_ok h
    refine ⟨_, hK, fun π w tmps hc hf => ?_⟩
    obtain ⟨v, hr0, hv0⟩ := hx π w _ hc (hf a)
    obtain ⟨vs, hr, hv⟩ := hh π w tmps hc hf
    refine ⟨v :: vs, ?_, RepL.cons hv0 hv⟩
    rw [List.mapM_cons, Sem.run_bind]
    refine (congrArg (fun r => Result.andThen r _) hr0).trans ?_
    change Sem.run P (List.mapM _ l >>= fun vs => pure (v :: vs)) w = _
    rw [Sem.run_bind]
    exact congrArg (fun r => Result.andThen r _) hr

def tupOf : List AV → AV
  | [x] => x
  | xs => .tup xs
theorem results_ok {P : Program} {fn : Func} {fr : Fr} {H : Heap U} {K : List AV → Prop} (h : resA P fn.results.toList fr H K) : ∃ xs, K xs ∧ ∀ (π : Plc) (w : World) (tmps : Array Value), Conc π H w → FrOk π fr tmps →
    ∃ v, (results fn tmps).run P w = .ok v w ∧ Rep π (tupOf xs) v := by
  obtain ⟨xs, hK, hh⟩ := resA_ok h
  refine ⟨xs, hK, fun π w tmps hc hf => ?_⟩
  obtain ⟨vs, hr, hv⟩ := hh π w tmps hc hf
  refine ⟨if h : vs.toArray.size = 1 then vs.toArray[0] else .tuple vs.toArray, ?_, ?_⟩
  · unfold results
    rw [Array.mapM_eq_mapM_toList]
    simp only [bind_map_left]
    rw [Sem.run_bind]
    exact congrArg (fun r => Result.andThen r _) hr
  · match xs, hv with
    | [], hv =>
      have := hv.length
      have hn : vs = [] := List.eq_nil_of_length_eq_zero this
      subst hn
      simp only [tupOf, Rep]; exact ⟨#[], by simp, RepL.nil π⟩
    | [x], hv =>
      simp only [RepL] at hv
      obtain ⟨z, zs, rfl, hz, rfl⟩ := hv
      simpa [tupOf] using hz
    | x :: y :: xs, hv =>
      have hl := hv.length
      rw [dif_neg (by simp at hl ⊢; omega)]
      simp only [tupOf, Rep]
      exact ⟨_, rfl, by simpa using hv⟩

/-! ### a function's contract, its memory numbered by itself -/
def FunOk (P : Program) (f : FuncId) (AL : List AV) (HL : Heap U) : OOut U → Prop
  | .val r => ∀ (π : Plc) (w : World) (vs : List Value), Fresh π HL.length → Conc π HL w → RepL π AL vs →
      Calls P f vs.toArray w fun e w' => ∃ v πn, e = .returned v ∧ Post HL HL.length r π πn w w' v
  | .panic x => ∀ (π : Plc) (w : World) (vs : List Value), Fresh π HL.length → Conc π HL w → RepL π AL vs →
      Calls P f vs.toArray w fun e w' => ∃ y, e = .panicked [{ v := y, recovered := false }] ∧ Rep π x y ∧ Keeps (fun _ => False) w w'

def sameK : AB1 U → AB1 U → Bool
  | .cells .., .cells .. => true
  | .row .., .row .. => true
  | .map .., .map .. => true
  | .mrow true _, .mrow true _ => true
  | _, _ => false
theorem sameK_ok {b b' : AB1 U} (h : sameK b b' = true) : b.own = true ∧ b'.own = true ∧ ∀ p, b.phys p ↔ b'.phys p := by
  cases b <;> cases b' <;> first | (simp_all [sameK, AB1.own, AB1.phys]; done) | (rename_i o _ o' _; cases o <;> cases o' <;> simp_all [sameK, AB1.own, AB1.phys])

def oneAt (HL : Heap U) (id k : Nat) (f : AB1 U → Bool) : Bool :=
  match k, nth HL id with
  | 0, some (.one b) => f b
  | _, _ => false
theorem oneAt_ok {HL : Heap U} {id k : Nat} {f : AB1 U → Bool} (h : oneAt HL id k f = true) : ∃ b, HL.at id k = some b ∧ f b = true ∧ k = 0 ∧ HL[id]? = some (.one b) := by
  unfold oneAt at h
  split at h
  · rename_i b hb
    rw [nth_eq] at hb
    exact ⟨b, by unfold Heap.at; rw [hb]; rfl, h, rfl, hb⟩
  · cases h

theorem nodupB_ok : ∀ {l : List Nat}, nodupB l = true → l.Nodup
  | [], _ => List.nodup_nil
  | x :: l, h => by
    simp only [nodupB, Bool.and_eq_true] at h
    refine List.nodup_cons.2 ⟨fun hm => ?_, nodupB_ok h.2⟩
    rw [memN_iff.2 hm] at h; simp at h

theorem upds_at : ∀ {l : List (Nat × Nat × AB1 U)} {H : Heap U} {id : Nat} {b b0 : AB1 U}, (l.map (·.1)).Nodup → (id, 0, b) ∈ l → H[id]? = some (.one b0) → (H.upds l)[id]? = some (.one b)
  | [], H, id, b, b0, _, h, _ => by simp at h
  | (id', k', b') :: l, H, id, b, b0, hn, h, h0 => by
    rw [List.map_cons, List.nodup_cons] at hn
    rw [List.mem_cons] at h
    rcases h with h | h
    · cases h
      rw [Heap.upds, upds_other l hn.1]
      unfold Heap.set; rw [setNth_get, if_pos rfl, h0]; rfl
    · have hne : id' ≠ id := by
        intro e; subst e
        exact hn.1 (List.mem_map.2 ⟨_, h, rfl⟩)
      rw [Heap.upds]
      refine upds_at (b0 := b0) hn.2 h ?_
      unfold Heap.set; rw [setNth_get, if_neg (Ne.symm hne)]; exact h0
theorem app_upd {H : Heap U} {r : ORes U} (hn : (r.upd.map (·.1) ++ r.kill.map (·.1)).Nodup) {id : Nat} {b b0 : AB1 U} (h : (id, 0, b) ∈ r.upd) (h0 : H[id]? = some (.one b0)) : (H.app r).at id 0 = some b := by
  have hlt : id < H.length := (List.getElem?_eq_some_iff.1 h0).1
  have hd := List.nodup_append.1 hn
  have hk : id ∉ r.kill.map (·.1) := fun hm => hd.2.2 id (List.mem_map.2 ⟨_, h, rfl⟩) id hm rfl
  have : (H.app r)[id]? = some (.one b) := by
    unfold Heap.app
    rw [List.getElem?_append_left (by rw [Heap.upds_length, Heap.kills_length]; exact hlt)]
    exact upds_at hd.1 h (by rw [kills_other _ hk]; exact h0)
  unfold Heap.at; rw [this]; rfl

def ownCov (ids : List Nat) : Nat → Heap U → Prop
  | _, [] => True
  | i, .none :: l => ownCov ids (i + 1) l
  | i, .one b :: l => isB (!b.own || memN i ids) (ownCov ids (i + 1) l)
  | i, .fam _ f :: l => (∀ k, (f k).own = false) ∧ ownCov ids (i + 1) l
theorem ownCov_get {ids : List Nat} : ∀ {i : Nat} {l : Heap U}, ownCov ids i l → ∀ {j k : Nat} {b : AB1 U}, l.at j k = some b → b.own = true → (i + j) ∈ ids ∧ k = 0
  | i, [], _, j, k, b, h, _ => by simp [Heap.at] at h
  | i, x :: l, hc, j, k, b, h, ho => by
    cases j with
    | succ j =>
      have h' : Heap.at l j k = some b := by simpa [Heap.at] using h
      have hc' : ownCov ids (i + 1) l := by
        cases x with
        | none => exact hc
        | one b => exact (isB_ok hc).2
        | fam n f => exact hc.2
      have := ownCov_get hc' h' ho
      rwa [show i + 1 + j = i + (j + 1) by omega] at this
    | zero =>
      cases x with
      | none => simp [Heap.at] at h
      | one b0 =>
        simp only [Heap.at, List.getElem?_cons_zero] at h
        split at h
        · rename_i hk
          cases h
          have := (isB_ok hc).1
          rw [ho] at this
          exact ⟨memN_iff.1 (by simpa using this), hk⟩
        · cases h
      | fam n f =>
        simp only [Heap.at, List.getElem?_cons_zero] at h
        split at h
        · cases h
          rw [hc.1 k] at ho; cases ho
        · cases h

def okR (HL : Heap U) (r : ORes U) : Bool :=
  r.upd.all (fun (id, k, b) => oneAt HL id k (sameK b)) && r.kill.all (fun (id, k) => oneAt HL id k AB1.own) && r.new.all AB1.own && nodupB (r.upd.map (·.1) ++ r.kill.map (·.1))

def endA0 (P : Program) (fn : Func) (HL : Heap U) (R : OOut U) (e : Ex) (fr : Fr) (H : Heap U) : Prop :=
  match e, R with
  | .pan x, .panic x' => ownCov [] 0 HL ∧ isB x'.fixed (leV H (fun i => i) 0 x x')
  | .nrm, .val r | .ret, .val r => ownCov (r.upd.map (·.1) ++ r.kill.map (·.1)) 0 HL ∧
      isB (okR HL r) (resA P fn.results.toList fr H fun vs => weakN HL.length [(0, tupOf vs)] [] H [(0, r.val)] (HL.app r))
  | _, _ => False

/-- The marks of loops that are over do nothing. -/
def stripM : Df → Df
  | .mark :: l => stripM l
  | l => l

/-- A function's end: marks; a call that is put off and recovers (tl: which function does so by which). -/
def endG (P : Program) (T : Tab U) (tl : Nat → Option FuncId) (fn : Func) (HL : Heap U) (R : OOut U) (e : Ex) (fr : Fr) (df : Df) (H : Heap U) : Prop :=
  match stripM df with
  | [] => endA0 P fn HL R e fr H
  | [.call (.func k) [c] []] => match tl k with
    | some f => match T.look f with
      | some con => match e with
        | .nrm => con [.v .nilIface, c] H H.length fun
          | .val r => worked (fun _ fr _ H => endA0 P fn HL R .ret fr H) .ret fr [] (H.app r)
          | .panic _ => False
        | .ret => con [.v .nilIface, c] H H.length fun
          | .val r => worked (fun _ fr _ H => endA0 P fn HL R .ret fr H) .ret fr [] (H.app r)
          | .panic _ => False
        | .pan x => con [x, c] H H.length fun
          | .val r => worked (fun _ fr _ H => endA0 P fn HL R .ret fr H) .ret fr [] (H.app r)
          | .panic _ => False
        | _ => False
      | none => False
    | none => False
  | _ => False

/-- What `weakN` hands on is what a result is. -/
theorem post_of {HL : Heap U} {r : ORes U} {π π' : Plc} {w w' : World} {v : Value} {nt : Nat} {a : Act} (hf : Fresh π HL.length) (hc : Conc π HL w) (hcov : ownCov (r.upd.map (·.1) ++ r.kill.map (·.1)) 0 HL) (hok : okR HL r = true)
    (hS : St (Base.of π HL w nt hf) [(0, r.val)] [] (HL.app r) π' w' a) (hv : a.tmps.getD 0 undef = v) : Post HL HL.length r π π' w w' v := by
  unfold okR at hok
  simp only [Bool.and_eq_true, List.all_eq_true] at hok
  obtain ⟨⟨⟨hu, hk⟩, hn⟩, hnd⟩ := hok
  replace hnd := nodupB_ok hnd
  have hlen := Heap.app_length HL r
  have hsub := hS.sub
  -- what is at a place behind
  have atNew : ∀ j b, r.new[j]? = some b → (HL.app r).at (HL.length + j) 0 = some b := by
    intro j b hb
    unfold Heap.app Heap.at
    have h2 : ((HL.kills r.kill).upds r.upd).length = HL.length := by rw [Heap.upds_length, Heap.kills_length]
    rw [List.getElem?_append_right (by omega), h2]
    simp only [Nat.add_sub_cancel_left, List.getElem?_map, hb]
    rfl
  refine ⟨?_, hsub, fun id k h => ?_, fun j b hb => ?_, fun i j b b' p p' hb hb' hne hp hp' h1 h2 => ?_, fun id k b hb => ?_, fun id k hb => ?_, ?_⟩
  · have := hS.fr 0
    rw [Fr.get_cons, if_pos rfl, hv] at this; exact this
  · rcases h with h | h
    · exact hS.only id k h
    · rw [hS.fresh id k (by rw [hlen]; exact h), hf id k (by omega)]
  · have hat := atNew j b hb
    obtain ⟨p, hp, hbk⟩ := hS.conc.ok _ _ _ hat
    have hown : b.own = true := hn b (List.mem_of_getElem? hb)
    refine ⟨hown, p, hp, hbk, fun hph => ?_⟩
    rcases hS.own p.blk ⟨_, 0, b, p, hat, hown, hp, hph, rfl⟩ with ⟨id, k, b0, q, hb0, ho0, hq, hqph, e⟩ | h
    · right
      have hcv := ownCov_get hcov hb0 ho0
      rw [Nat.zero_add] at hcv
      obtain ⟨hmem, rfl⟩ := hcv
      rcases List.mem_append.1 hmem with hm | hm
      · exfalso
        obtain ⟨⟨id', k', b'⟩, hm2, e'⟩ := List.mem_map.1 hm
        simp only at e'; subst e'
        obtain ⟨b1, hb1, hs, rfl, hb1'⟩ := oneAt_ok (hu _ hm2)
        rw [hb0] at hb1; cases hb1
        have hat' := app_upd hnd hm2 hb1'
        have hq' := hsub _ _ _ hq
        exact hS.conc.sep _ _ b _ _ b' p q hat hat' (.inl (by have := (List.getElem?_eq_some_iff.1 hb1').1; omega)) hown hp hq' hph ((sameK_ok hs).2.2 q |>.2 hqph) e.symm
      · obtain ⟨⟨id', k'⟩, hm2, e'⟩ := List.mem_map.1 hm
        simp only at e'; subst e'
        obtain ⟨b1, hb1, _, rfl, _⟩ := oneAt_ok (hk _ hm2)
        exact ⟨_, 0, b0, q, hm2, hb0, ho0, hq, hqph, e⟩
    · exact .inl h
  · exact hS.conc.sep _ _ b _ _ b' p p' (atNew i b hb) (atNew j b' hb') (.inl (by omega)) (hn b (List.mem_of_getElem? hb)) hp hp' h1 h2
  · obtain ⟨b0, hb0, hs, rfl, hb0'⟩ := oneAt_ok (hu _ hb)
    have hat := app_upd hnd hb hb0'
    obtain ⟨p, hp, hbk⟩ := hS.conc.ok _ _ _ hat
    have hs' := sameK_ok hs
    exact ⟨b0, p, hb0, hs'.2.1, hs'.1, (hS.only _ _ (List.getElem?_eq_some_iff.1 hb0').1).symm.trans hp, hbk, fun h => (hs'.2.2 p).1 h⟩
  · obtain ⟨b0, hb0, ho, _⟩ := oneAt_ok (hk (id, k) hb)
    exact ⟨b0, hb0, ho⟩
  · refine hS.keeps.weaken fun n hnl hh => ?_
    obtain ⟨id, k, b0, p, hb0, ho, hp, hph, e⟩ := hh.resolve_right (fun h => h)
    have hcv := ownCov_get hcov hb0 ho
    rw [Nat.zero_add] at hcv
    obtain ⟨hmem, rfl⟩ := hcv
    refine ⟨id, 0, p, b0, ?_, hb0, hph, hp, e⟩
    rcases List.mem_append.1 hmem with hm | hm
    · obtain ⟨⟨id', k', b'⟩, hm2, e'⟩ := List.mem_map.1 hm
      simp only at e'; subst e'
      obtain ⟨_, _, _, rfl, _⟩ := oneAt_ok (hu _ hm2)
      exact .inl ⟨b', hm2⟩
    · obtain ⟨⟨id', k'⟩, hm2, e'⟩ := List.mem_map.1 hm
      simp only at e'; subst e'
      obtain ⟨_, _, _, rfl, _⟩ := oneAt_ok (hk _ hm2)
      exact .inr hm2

theorem DfOk.putD {lo : Nat} {π : Plc} {w : World} {D : Nat} {o : Obj} : ∀ {l : Df} {ds : List Deferred}, DfOk lo π w l ds → (∀ d ∈ ds, d.target ≠ .collected D) → DfOk lo π (w.putObj D o) l ds
  | [], ds, e, _ => e
  | .call f xs ys :: l, ds, ⟨cap, args, ds', e, h1, h2, h3⟩, hn => ⟨cap, args, ds', e, h1, h2, DfOk.putD h3 fun d hd => hn d (by subst e; exact List.mem_cons_of_mem _ hd)⟩
  | .mark :: l, ds, ⟨D', ds', e, h1, h2, h3, h4⟩, hn => by
    subst e
    have hne : D' ≠ D := fun hh => hn _ (List.mem_cons_self ..) (by rw [hh])
    exact ⟨D', ds', rfl, by rw [World.putObj_heap_other hne]; exact h1, h2, h3, DfOk.putD h4 fun d hd => hn d (List.mem_cons_of_mem _ hd)⟩
  | .pend j :: l, ds, e, hn => DfOk.putD (l := l) e hn

/-- A mark is come to. -/
theorem St.take {P : Program} {π0 : Plc} {HL : Heap U} {w0 : World} {nt : Nat} {hf : Fresh π0 HL.length} {fr : Fr} {df : Df} {H : Heap U} {π : Plc} {w : World} {a : Act} (h : St (Base.of π0 HL w0 nt hf) fr (.mark :: df) H π w a) :
    ∃ D ds', a.defers = { target := .collected D, args := #[] } :: ds' ∧ (Instr.takeDeferred D).run P w = .ok [] (w.putObj D (.deferred none)) ∧ St (Base.of π0 HL w0 nt hf) fr df H π (w.putObj D (.deferred none)) { a with defers := ds' } := by
  obtain ⟨D, ds', e, h1, h2, h3, h4⟩ := h.df
  refine ⟨D, ds', e, run_takeDeferred h1, h.fr, h.conc.putObj h1 not_plain_deferred, h.fresh, h.only, h.keeps.trans (keeps_put w D _) fun n hn hh => ?_, h.own, h.nt, trivial, h4.putD h3, h.len⟩
  have h2' : w0.heap.size ≤ D := h2
  have hn' : n < w0.heap.size := hn
  omega

theorem leaves_marks {P : Program} {fn : Func} {n : Nat} {F : Fence} {R : Ending → World → Prop} {π0 : Plc} {HL : Heap U} {w0 : World} {nt : Nat} {hf : Fresh π0 HL.length} {fr : Fr} {H : Heap U} {π : Plc} {u : FrameMode} (hu : u ≠ .run) {tmps : Array Value} :
    ∀ (df : Df) (w : World) (a : Act), a.tmps = tmps → St (Base.of π0 HL w0 nt hf) fr df H π w a →
      (∀ w' a', a'.tmps = tmps → St (Base.of π0 HL w0 nt hf) fr (stripM df) H π w' a' → LeavesInM F n P fn tmps R a'.defers u w') → LeavesInM F n P fn tmps R a.defers u w
  | [], w, a, ht, hS, hk => hk w a ht hS
  | .call f xs ys :: l, w, a, ht, hS, hk => hk w a ht hS
  | .pend j :: l, w, a, ht, hS, hk => hk w a ht hS
  | .mark :: l, w, a, ht, hS, hk => by
    obtain ⟨D, ds', e, hrun, hS'⟩ := hS.take (P := P)
    rw [e]
    exact ⟨hu, .inl ⟨D, _, rfl, hrun, leaves_marks hu l (w.putObj D (.deferred none)) { a with defers := ds' } ht hS' hk⟩⟩

/-- A function that is put off and calls f with what it recovers and its captured variable. -/
def ToldOk (P : Program) (k f : FuncId) : Prop :=
  (∀ args w, (callFunc k args).run P w = .ok (.enter k args) w) ∧
  ∀ (n : Nat) (x c : Value) (u : FrameMode) (w : World) (Q : World → Prop), ((u = .returning ∧ x = .nilIface) ∨ u = .panicking [{ v := x, recovered := false }]) →
    Calls P f #[x, c] w (fun e w' => ∃ v, e = .returned v ∧ Q w') →
    CallsDIn (Fw none) n P k #[c] u w (fun e u' w' => (∃ v, e = .returned v) ∧ settle u' = .returning ∧ Q w')

theorem told_of {P : Program} {k f : FuncId} {fn : Func} {id : Nat} {o1 o2 : Oper} (hf : P.funcs[k]? = some fn) (he : ∀ args w, (callFunc k args).run P w = .ok (.enter k args) w) (hfe : ∀ args w, (callFunc f args).run P w = .ok (.enter f args) w)
    (hb : fn.body = some (.region id #[o1, o2] false)) (hr : fn.results = #[]) (hnt : fn.ntmps = 3) {ts1 ts2 : Array TypeId} (h1 : o1.op = .call { callee := .builtin .recover, args := #[], argTypes := ts1 }) (hg1 : o1.guard = none) (hd1 : o1.dst = some 1)
    (h2 : o2.op = .call { callee := .value (.func f), args := #[.tmp 1, .tmp 0], argTypes := ts2 }) (hg2 : o2.guard = none) : ToldOk P k f := by
  refine ⟨he, fun n x c u w Q hu hcall => ?_⟩
  refine ⟨trivial, fun c₀ cs hc _ => ?_⟩
  let b : Frame := { (default : Frame) with fn := k, kind := .deferred }
  have hrec : ∀ a : Act, (execOp a.eval o1).run P w = .ok .recover w := by
    intro a
    simp [execOp, h1, resolve, invoke, builtin]
  have hcallrun : ∀ (a : Act) (w : World), (execOp a.eval o2).run P w = .ok (.enter f #[a.eval (.tmp 1), a.eval (.tmp 0)]) w := by
    intro a w
    have h0 : a.eval (.func f) = .func (.func f) #[] #[] := rfl
    simp [execOp, h2, resolve, invoke, Deferred.ofValue, h0, hfe]
  obtain ⟨u', hset, hx⟩ : ∃ u', settle u' = .returning ∧ (match recoverD (c₀ :: cs) with | some (v, cs') => v = x ∧ cs' = { c₀ with mode := u' } :: cs | none => x = .nilIface ∧ c₀ = { c₀ with mode := u' }) := by
    rcases hu with ⟨rfl, rfl⟩ | rfl
    · exact ⟨.returning, rfl, by simp [recoverD, hc]; cases c₀; simp_all⟩
    · exact ⟨.panicking [{ v := x, recovered := true }], by simp [settle], by simp [recoverD, hc]⟩
  obtain ⟨Qf, hQf⟩ : ∃ Qf : Exit → Act → List Frame → World → Prop, Qf = (fun e a cs' w' => e = .normal ∧ a.defers = [] ∧ cs' = { c₀ with mode := u' } :: cs ∧ Q w') := ⟨_, rfl⟩
  have hwp : (Code.region id #[o1, o2] false).wpS P Qf { tmps := #[c] ++ Array.replicate (fn.ntmps - (#[c] : Array Value).size) undef, defers := [] } (c₀ :: cs) w := by
    refine wpS_region ?_
    have hl : List.range (#[o1, o2] : Array Oper).size = [0, 1] := rfl
    rw [hl]
    have hw : ∀ tmps, Region.wanted o1 (yielded #[o1, o2] tmps) = true := fun _ => by simp [Region.wanted, hg1]
    have hw' : ∀ tmps, Region.wanted o2 (yielded #[o1, o2] tmps) = true := fun _ => by simp [Region.wanted, hg2]
    have key : ∀ cs', cs' = { c₀ with mode := u' } :: cs → wpOpsS P #[o1, o2] Qf [1] (({ tmps := #[c] ++ Array.replicate (fn.ntmps - (#[c] : Array Value).size) undef, defers := [] } : Act).put o1.dst x) cs' w := by
      intro cs' hcs'
      have e1 : (({ tmps := #[c] ++ Array.replicate (fn.ntmps - (#[c] : Array Value).size) undef, defers := [] } : Act).put o1.dst x) = { tmps := #[c, x, undef], defers := [] } := by
        rw [hd1, hnt]; rfl
      rw [e1]
      simp only [wpOpsS]
      have ho : (#[o1, o2] : Array Oper)[1]? = some o2 := rfl
      simp only [ho, hw', if_true, hcallrun]
      have ev : (#[({ tmps := #[c, x, undef], defers := [] } : Act).eval (.tmp 1), ({ tmps := #[c, x, undef], defers := [] } : Act).eval (.tmp 0)] : Array Value) = #[x, c] := rfl
      rw [ev]
      show Oper.upon _ _ _ _ _ _
      rw [Oper.upon_enter]
      refine hcall.mono fun e w' ⟨v, he, hq⟩ => ?_
      subst he
      rw [hQf]
      exact ⟨rfl, by rw [Act.put_defers'], hcs', hq⟩
    rw [wpOpsS]
    have ho : (#[o1, o2] : Array Oper)[0]? = some o1 := rfl
    simp only [ho, hw, if_true, hrec]
    cases hrd : recoverD (c₀ :: cs) with
    | none =>
      rw [hrd] at hx
      simp only
      obtain ⟨hx1, hx2⟩ := hx
      subst hx1
      exact key _ (by rw [← hx2])
    | some p =>
      obtain ⟨v, cs'⟩ := p
      rw [hrd] at hx
      simp only at hx ⊢
      obtain ⟨hx1, hx2⟩ := hx
      subst hx1
      exact key _ hx2
  have henter : Frame.enter P k #[c] .deferred = b.at { tmps := #[c] ++ Array.replicate (fn.ntmps - (#[c] : Array Value).size) undef, defers := [] } [.code (.region id #[o1, o2] false)] := by
    simp [Frame.enter, Frame.at, hf, hb, b]
  rw [hQf] at hwp
  obtain ⟨e, a', cs', w', ⟨rfl, hd, rfl, hq⟩, harr⟩ := hwp b [] rfl rfl
  rw [← henter] at harr
  refine ⟨.returned (.tuple #[]), u', w', _, ⟨⟨_, rfl⟩, hset, hq⟩, comesIn_wide.2 (Steps.trans harr (.one step_end)), rfl, rfl, rfl, hd, fn, hf, by simp [results, hr]⟩

/-- A function, by what its code does. -/
theorem fun_okG {E : Env U} (hm : E.P.follows .mixedOrders = true) (hT : E.T.Sound E.P) {tl : Nat → Option FuncId} (htl : ∀ k f, tl k = some f → ToldOk E.P k f) {f : FuncId} {fn : Func} {c : Code} (hf : E.P.funcs[f]? = some fn) (hb : fn.body = some c) (hnt : E.nt = fn.ntmps) {AL : List AV} (hal : Nat.ble AL.length fn.ntmps = true) {HL : Heap U} {R : OOut U} {C : Cfg U}
    (hIt : ∀ k it, C.it k = some it → ItOk E.P it) (hCm : C.m = HL.length) (hr : C.rnd = false) (hEY : ∀ a H K, ¬ E.Y a H K)
    {K : Ex → Fr → Df → Heap U → Prop} (hK : ∀ e fr df H, K e fr df H → endG E.P E.T tl fn HL R e fr df H) (h : wpA E C c (frameOf 0 AL) [] HL K) : FunOk E.P f AL HL R := by
  have hal' : AL.length ≤ fn.ntmps := by simpa using hal
  -- where it begins
  have start : ∀ (π : Plc) (w : World) (vs : List Value) (hfr : Fresh π HL.length), Conc π HL w → RepL π AL vs →
      St (Base.of π HL w E.nt hfr) (frameOf 0 AL) [] HL π w { tmps := vs.toArray ++ Array.replicate (fn.ntmps - vs.toArray.size) undef, defers := [] } := by
    intro π w vs hfr hc hv
    have hl := hv.length
    refine ⟨frameOf_ok fun j x hx => ?_, hc, hfr, fun _ _ _ => rfl, Keeps.refl _ _, fun _ h => .inl h, ?_, trivial, rfl, Nat.le_refl _⟩
    · obtain ⟨y, hy, hr⟩ := hv.get hx
      have hj : j < vs.length := (List.getElem?_eq_some_iff.1 hy).1
      have : (vs.toArray ++ Array.replicate (fn.ntmps - vs.toArray.size) undef).getD (0 + j) undef = y := by
        rw [Nat.zero_add, Array.getD_eq_getD_getElem?, Array.getElem?_append_left (by simpa using hj)]
        simp [hy]
      rw [this]; exact hr
    · simp only [Array.size_append, List.size_toArray, Array.size_replicate]
      rw [hnt]; omega
  -- what is asked at the end, for one beginning
  have main : ∀ (RR : Ending → World → Prop) (π : Plc) (w : World) (vs : List Value) (hfr : Fresh π HL.length), Conc π HL w → RepL π AL vs →
      (∀ e fr H π' w' (a' : Act), (e = .nrm ∨ e = .ret) → endA0 E.P fn HL R e fr H → St (Base.of π HL w E.nt hfr) fr [] H π' w' a' → ∃ v, (results fn a'.tmps).run E.P w' = .ok v w' ∧ RR (.returned v) w') →
      (∀ x y fr H π' w' (a' : Act), endA0 E.P fn HL R (.pan x) fr H → Rep π' x y → St (Base.of π HL w E.nt hfr) fr [] H π' w' a' → RR (.panicked [{ v := y, recovered := false }]) w') →
      Calls E.P f vs.toArray w RR := by
    intro RR π w vs hfr hc hv kret kpan
    -- the end of the list of what is put off
    have tail : ∀ (e : Ex) (x : AV) (y : Value) (u : FrameMode) fr df H π' w' (a' : Act), ((e = .nrm ∨ e = .ret) ∧ u = .returning ∧ x = .v .nilIface ∧ y = .nilIface ∨ e = .pan x ∧ u = .panicking [{ v := y, recovered := false }]) → Rep π' x y → endG E.P E.T tl fn HL R e fr df H →
        St (Base.of π HL w E.nt hfr) fr (stripM df) H π' w' a' → LeavesInM (Fw none) 0 E.P fn a'.tmps RR a'.defers u w' := by
      intro e x y u fr df H π' w' a' he hxy hk hS
      unfold endG at hk
      split at hk
      · rename_i hdf
        rw [hdf] at hS
        have hd : a'.defers = [] := hS.df
        rw [hd]
        rcases he with ⟨he, rfl, _⟩ | ⟨rfl, rfl⟩
        · obtain ⟨v, hv1, hv2⟩ := kret e fr H π' w' a' he hk hS
          exact ⟨v, hv1, hv2⟩
        · exact kpan x y fr H π' w' a' hk hxy hS
      · rename_i k c hdf
        rw [hdf] at hS
        split at hk
        case h_2 => exact hk.elim
        rename_i g htg
        split at hk
        case h_2 => exact hk.elim
        rename_i con hcon
        obtain ⟨cap, args, ds', hds, hcap, hargs, hrest⟩ := hS.df
        have hds' : ds' = [] := hrest
        subst hds'
        have hargs' : args = #[] := by apply Array.toList_inj.1; simpa [RepL] using hargs
        subst hargs'
        simp only [RepL] at hcap
        obtain ⟨cv, zs, hcl, hcr, hz⟩ := hcap
        subst hz
        have hcap' : cap = #[cv] := by apply Array.toList_inj.1; rw [hcl]
        subst hcap'
        have hsound := hT.get hcon
        have htold := htl k g htg
        -- the call that f makes of what was recovered
        have hcon' : con [x, c] H H.length fun
          | .val r => worked (fun _ fr _ H => endA0 E.P fn HL R .ret fr H) .ret fr [] (H.app r)
          | .panic _ => False := by
          rcases he with ⟨he, _, rfl, _⟩ | ⟨rfl, _⟩
          · rcases he with rfl | rfl <;> exact hk
          · exact hk
        obtain ⟨r, hr1, hcall⟩ := hsound.ok _ _ _ _ hcon'
        cases r with
        | panic _ => exact hr1.elim
        | val r =>
          have hcall' := hcall π' w' [y, cv] hS.conc (RepL.cons hxy (RepL.cons hcr (RepL.nil π'))) fun j k _ => hS.fresh _ _ (by omega)
          have hnr : u ≠ .run := by rcases he with ⟨_, rfl, _⟩ | ⟨_, rfl⟩ <;> simp
          rw [hds]
          have hu : (u = .returning ∧ y = .nilIface) ∨ u = .panicking [{ v := y, recovered := false }] := by
            rcases he with ⟨_, h1, _, h2⟩ | ⟨_, h⟩
            · exact .inl ⟨h1, h2⟩
            · exact .inr h
          refine ⟨hnr, .inr ⟨fun hh => by simp [Fw, Fence.wide] at hh, _, _, k, #[cv], rfl, ?_, fun _ _ => trivial, ?_⟩⟩
          · show (callFunc k (#[] ++ #[cv])).run E.P w' = _
            rw [show (#[] ++ #[cv] : Array Value) = #[cv] by simp]
            exact htold.1 _ _
          · refine (htold.2 (0 - 1) y cv u w' (fun w2 => ∃ v πn, Post H H.length r π' πn w' w2 v) hu (hcall'.mono fun e w2 h2 => ?_)).mono fun e u' w2 h2 => ?_
            · obtain ⟨v, πn, he', hp⟩ := h2; exact ⟨v, he', v, πn, hp⟩
            · obtain ⟨⟨v, rfl⟩, hset, v', πn, hp⟩ := h2
              simp only [hset]
              have hS0 : St (Base.of π HL w E.nt hfr) fr [] H π' w' { a' with defers := [] } := ⟨hS.fr, hS.conc, hS.fresh, hS.only, hS.keeps, hS.own, hS.nt, trivial, rfl, hS.len⟩
              have hS2 := hS0.step (Step.post (dst := none) hS.conc hS.fr hS.fresh hp rfl)
              obtain ⟨v3, hv1, hv2⟩ := kret .ret fr (H.app r) πn w2 _ (.inr rfl) (worked_ok hr1) hS2
              exact ⟨v3, hv1, hv2⟩
      · exact hk.elim
    have noExit : ∀ (e : Ex) fr df H, (∃ i, e = .exit i ∨ e = .goto i) → ¬ endG E.P E.T tl fn HL R e fr df H := by
      intro e fr df H he hk
      unfold endG at hk
      split at hk
      · obtain ⟨i, rfl | rfl⟩ := he <;> exact hk
      · split at hk
        · split at hk
          · obtain ⟨i, rfl | rfl⟩ := he <;> exact hk
          · exact hk
        · exact hk
      · exact hk
    refine callsIn_wide.1 (callsIn_of_wp_marks (n := 0) hf hb trivial (Go.wpIn_mono (wpA_ok hm hT (B := Base.of π HL w E.nt hfr) rfl hIt hCm (rd := none) (fun _ => rfl) (n := 0) (fun a H K hh => (hEY a H K hh).elim) c _ _ _ _ h π w _ (start π w vs hfr hc hv)) fun e a w' q => ?_))
    replace q := QOf.mono hK e a w' q
    cases e with
    | normal =>
      obtain ⟨fr, df, H, π', hk, hS⟩ := q
      exact leaves_marks (by simp) df w' a rfl hS fun w2 a2 ht hS2 => by rw [← ht]; exact tail .nrm (.v .nilIface) .nilIface .returning fr df H π' w2 a2 (.inl ⟨.inl rfl, rfl, rfl, rfl⟩) (by simp [Rep]) hk hS2
    | ret =>
      obtain ⟨fr, df, H, π', hk, hS⟩ := q
      exact leaves_marks (by simp) df w' a rfl hS fun w2 a2 ht hS2 => by rw [← ht]; exact tail .ret (.v .nilIface) .nilIface .returning fr df H π' w2 a2 (.inl ⟨.inr rfl, rfl, rfl, rfl⟩) (by simp [Rep]) hk hS2
    | panic ch =>
      obtain ⟨x, y, fr, df, H, π', rfl, hk, hxy, hS⟩ := q
      exact leaves_marks (by simp) df w' a rfl hS fun w2 a2 ht hS2 => by rw [← ht]; exact tail (.pan x) x y _ fr df H π' w2 a2 (.inr ⟨rfl, rfl⟩) hxy hk hS2
    | exit i => obtain ⟨fr, df, H, π', hk, hS⟩ := q; exact (noExit _ _ _ _ ⟨i, .inl rfl⟩ hk).elim
    | goto i => obtain ⟨fr, df, H, π', hk, hS⟩ := q; exact (noExit _ _ _ _ ⟨i, .inr rfl⟩ hk).elim
    | outgrown => exact q.elim
  cases R with
  | val r =>
    intro π w vs hfr hc hv
    refine main _ π w vs hfr hc hv (fun e fr H π' w' a' he hk hS => ?_) (fun x y fr H π' w' a' hk _ _ => hk.elim)
    have hk' : ownCov (r.upd.map (·.1) ++ r.kill.map (·.1)) 0 HL ∧ isB (okR HL r) (resA E.P fn.results.toList fr H fun vs => weakN HL.length [(0, tupOf vs)] [] H [(0, r.val)] (HL.app r)) := by
      rcases he with rfl | rfl <;> exact hk
    obtain ⟨hcov, hk⟩ := hk'
    obtain ⟨hok, hk⟩ := isB_ok hk
    obtain ⟨xs, hw, hres⟩ := results_ok hk
    obtain ⟨v, hrun, hrep⟩ := hres π' w' a'.tmps hS.conc hS.fr
    have hS0 : St (Base.of π HL w 1 hfr) [(0, tupOf xs)] [] H π' w' { tmps := #[v], defers := [] } := by
      refine ⟨fun t => ?_, hS.conc, hS.fresh, hS.only, hS.keeps, hS.own, rfl, trivial, rfl, hS.len⟩
      rw [Fr.get_cons]
      split
      · rename_i e; subst e; exact hrep
      · simp [Fr.get, Rep]
    obtain ⟨πn, hSn⟩ := weakN_ok hw hS0
    exact ⟨v, hrun, v, πn, rfl, post_of hfr hc hcov hok hSn rfl⟩
  | panic x =>
    intro π w vs hfr hc hv
    refine main _ π w vs hfr hc hv (fun e fr H π' w' a' he hk _ => by rcases he with rfl | rfl <;> exact hk.elim) (fun x' y fr H π' w' a' hk hr hS => ?_)
    obtain ⟨hcov, hk⟩ := hk
    obtain ⟨hfx, hk⟩ := isB_ok hk
    refine ⟨y, rfl, (leV_ok hS.conc hk hr).fixed hfx, hS.keeps.weaken fun n hn hh => ?_⟩
    obtain ⟨id, k, b0, p, hb0, ho, _⟩ := hh.resolve_right (fun h => h)
    have := (ownCov_get hcov hb0 ho).1
    cases this

/-- An iterator by its code. -/
def itOf (P : Program) (T : Tab U) (g : FuncId) (fn : Func) (L : Nat → Nat → Option (LRule U)) (hs : Nat → List Nat := fun _ => []) (sp : Nat → Option (Nat × Nat) := fun _ => none) : ItW U where
  g := g
  fn := fn
  run := fun Y l m fr H K => wpA { P := P, T := T, nt := fn.ntmps, Y := Y, l := l } { m := m, L := L l, hs := hs, sp := sp } (bodyOf fn) fr [] H K
theorem itOf_ok {P : Program} {T : Tab U} (hm : P.follows .mixedOrders = true) (hT : T.Sound P) {g : FuncId} {fn : Func} {L : Nat → Nat → Option (LRule U)} {hs : Nat → List Nat} {sp : Nat → Option (Nat × Nat)} (hf : P.funcs[g]? = some fn) (hb : fn.body.isSome = true) (hr : fn.results.size = 0)
    (he : ∀ args w, (callFunc g args).run P w = .ok (.enter g args) w) : ItOk P (itOf P T g fn L hs sp) where
  fn := hf
  body := by
    obtain ⟨c, hc⟩ := Option.isSome_iff_exists.1 hb
    show fn.body = some (bodyOf fn)
    unfold bodyOf; rw [hc]
  res := Array.size_eq_zero_iff.1 hr
  enters := he
  walk := fun Y l fr H K h B n hnt hlen hY π w a hS =>
    wpA_ok (E := { P := P, T := T, nt := fn.ntmps, Y := Y, l := l }) hm hT hnt (C := { m := H.length, L := L l, hs := hs, sp := sp }) (fun _ _ h => by cases h) hlen.symm (rd := none) (fun _ => rfl) hY _ _ _ _ _ h π w a hS
end AE
