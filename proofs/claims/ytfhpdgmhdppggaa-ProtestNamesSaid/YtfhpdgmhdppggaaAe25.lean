/- An own symbolic executor: regions whose order is open: the region. No condition. -/
import Derived.Test.YtfhpdgmhdppggaaAe24
namespace AE
open Go

variable {U : Uni}

/-- A stretch of a function's way: where it stands, against where it set out. -/
structure Step (π0 : Plc) (H0 : Heap U) (w0 : World) (a0 : Act) (fr : Fr) (H : Heap U) (π : Plc) (w : World) (a : Act) : Prop where
  fr : FrOk π fr a.tmps
  conc : Conc π H w
  fresh : Fresh π H.length
  sub : Sub π0 π
  only : ∀ id k, id < H0.length → π id k = π0 id k
  keeps : Keeps (Owned π0 H0) w0 w
  own : ∀ n, Owned π H n → Owned π0 H0 n ∨ w0.heap.size ≤ n
  nt : a.tmps.size = a0.tmps.size
  defers : a.defers = a0.defers
  len : H0.length ≤ H.length

theorem Step.trans {π0 π1 π : Plc} {H0 H1 H : Heap U} {w0 w1 w : World} {a0 a1 a : Act} {fr1 fr : Fr} (h : Step π0 H0 w0 a0 fr1 H1 π1 w1 a1) (k : Step π1 H1 w1 a1 fr H π w a) : Step π0 H0 w0 a0 fr H π w a where
  fr := k.fr
  conc := k.conc
  fresh := k.fresh
  sub := h.sub.trans k.sub
  only := fun id j hi => (k.only id j (Nat.lt_of_lt_of_le hi h.len)).trans (h.only id j hi)
  keeps := h.keeps.trans k.keeps fun n hn ho => (h.own n ho).resolve_right (by omega)
  own := fun n hn => by
    rcases k.own n hn with h1 | h1
    · exact h.own n h1
    · exact .inr (Nat.le_trans h.keeps.size h1)
  nt := k.nt.trans h.nt
  defers := k.defers.trans h.defers
  len := Nat.le_trans h.len k.len

theorem newSum_take_le : ∀ {tbl : List (Ent U)} {i j : Nat} {e : Ent U}, tbl[i]? = some e → i < j → newSum (tbl.take i) + e.k.newN ≤ newSum (tbl.take j)
  | [], i, j, e, h, _ => by simp at h
  | e0 :: tbl, 0, j + 1, e, h, _ => by
    simp at h; subst h
    rw [List.take_succ_cons]; simp only [List.take_zero, newSum]; omega
  | e0 :: tbl, i + 1, j + 1, e, h, hij => by
    have := newSum_take_le (tbl := tbl) (i := i) (j := j) (e := e) (by simpa using h) (by omega)
    rw [List.take_succ_cons, List.take_succ_cons]; simp only [newSum]; omega
theorem newSum_take_all {tbl : List (Ent U)} {i : Nat} {e : Ent U} (h : tbl[i]? = some e) : newSum (tbl.take i) + e.k.newN ≤ newSum tbl := by
  have := newSum_take_le (j := tbl.length) h (List.getElem?_eq_some_iff.1 h).1
  rwa [List.take_length] at this

theorem foldH_untouched {m : Nat → Bool} {id : Nat} : ∀ {tbl : List (Ent U)} {i : Nat} {H : Heap U}, id < H.length → (∀ e ∈ tbl, id ∉ e.k.mods) → (foldH m tbl i H)[id]? = H[id]?
  | [], i, H, _, _ => rfl
  | e :: tbl, i, H, hl, h => by
    rw [foldH_cons, foldH_untouched (by rw [stepH_length]; omega) fun e' he' => h e' (by simp [he'])]
    unfold stepH
    have h0 := h e (by simp)
    cases hk : e.k with
    | done r =>
      cases m i with
      | true => rw [hk] at h0; exact app_other hl h0
      | false => simp only; exact List.getElem?_append_left hl
    | _ => rfl
theorem allMods_mem : ∀ {tbl : List (Ent U)} {e : Ent U}, e ∈ tbl → ∀ id ∈ e.k.mods, id ∈ allMods tbl
  | e0 :: tbl, e, h, id, hid => by
    simp at h
    unfold allMods
    rcases h with rfl | h
    · simp [hid]
    · simp [allMods_mem h id hid]

theorem killAll_length : ∀ {l : List Nat} {H : Heap U}, (killAll l H).length = H.length
  | [], H => rfl
  | i :: l, H => by unfold killAll; rw [killAll_length]; unfold Heap.kill; rw [setNth_length]

section
variable {P : Program} {nt : Nat} {ops : Array Oper} {fr0 : Fr} {H0 : Heap U} {tbl : List (Ent U)} {π0 π : Plc} {w0 w : World} {a0 a : Act} {listed : Array Bool} {i : Nat} {o : Oper} {e : Ent U}

theorem Mid.newSet (hM : Mid nt tbl fr0 H0 π0 π w0 a0 listed a w) (he : tbl[i]? = some e) (hb : e.k.bad = false) (hmask : ∀ k, Nat.testBit e.mask k = true → lst listed k = true) :
    ∀ (j : Nat) (ej : Ent U), lst (listed.setIfInBounds i true) j = true → tbl[j]? = some ej → ej.k.bad = false ∧ ∀ k, Nat.testBit ej.mask k = true → lst (listed.setIfInBounds i true) k = true := by
  have hlt : i < listed.size := by rw [hM.size]; exact (List.getElem?_eq_some_iff.1 he).1
  intro j ej hj hej
  rw [lst_set hlt] at hj ⊢
  have up : ∀ k, lst listed k = true → (if k = i then true else lst listed k) = true := fun k hk => by split <;> first | rfl | exact hk
  by_cases h : j = i
  · subst h; rw [he] at hej; cases hej
    exact ⟨hb, fun k hk => up k (hmask k hk)⟩
  · simp only [if_neg h] at hj
    obtain ⟨h1, h2⟩ := hM.clo j ej hj hej
    exact ⟨h1, fun k hk => up k (h2 k hk)⟩

theorem Mid.done {r : ORes U} {πn : Plc} {w' : World} {v : Value} (hT : TblOk P nt ops.toList fr0 H0 tbl) (hM : Mid nt tbl fr0 H0 π0 π w0 a0 listed a w) (he : tbl[i]? = some e) (hi : lst listed i = false) (hE : EntOk P nt ops.toList fr0 H0 (tbl.take i) o e) (hmask : ∀ k, Nat.testBit e.mask k = true → lst listed k = true)
    (hk : e.k = .done r) (hp : Post e.H e.base r π πn w w' v) : Mid nt tbl fr0 H0 π0 πn w0 a0 (listed.setIfInBounds i true) (a.put o.dst v) w' := by
  have hlt : i < listed.size := by rw [hM.size]; exact (List.getElem?_eq_some_iff.1 he).1
  have hilt : i < tbl.length := (List.getElem?_eq_some_iff.1 he).1
  have hkind := hE.kind
  rw [hk] at hkind
  simp only at hkind
  obtain ⟨_, _, hH, _, hmods, hlive⟩ := hkind
  have hbase : e.base = H0.length + newSum (tbl.take i) := hE.base
  have hlat : ∀ (k : Nat) (ek : Ent U), tbl[k]? = some ek → i < k → lst listed k = true → ∀ id ∈ ek.k.mods, (∀ x, e.H[id]? = some x → x = .none) ∧ ¬ (e.base ≤ id ∧ id < e.base + r.new.length) := by
    intro k ek hek hik hmk id hid
    obtain ⟨ok, _, hEk⟩ := hT k ek hek
    have hbit := (hM.later hT he hi hek hik hmk).2.1
    have hkd := hEk.kind
    cases hkk : ek.k with
    | done rk =>
      rw [hkk] at hkd
      simp only at hkd
      rw [hkk] at hid
      have hpre : (tbl.take k)[i]? = some e := by rw [List.getElem?_take, if_pos hik]; exact he
      refine ⟨fun x hx => hkd.2.2.2.2.1 i e hpre hbit id hid x hx, fun hr => ?_⟩
      obtain ⟨x, hx, hx0⟩ := hkd.2.2.2.2.2 id hid
      have h1 := (hkd.2.2.1 id x hx hx0).1
      rw [hbase] at hr
      have h2 := foldH_none (m := Nat.testBit ek.mask) (n := i) (tbl := tbl.take k) (i := 0) (H := H0) (r := r) hpre hk (by rw [Nat.zero_add]; exact hbit) (by rw [List.take_take, Nat.min_eq_left (by omega)]; exact hr.1) (by rw [List.take_take, Nat.min_eq_left (by omega)]; exact hr.2)
      rw [h1] at h2; cases h2; exact hx0 rfl
    | skip => rw [hkk] at hid; simp [EK.mods] at hid
    | panic x => rw [hkk] at hid; simp [EK.mods] at hid
    | dead => rw [hkk] at hid; simp [EK.mods] at hid
  have hle : e.H.le (foldH (lst listed) tbl 0 H0) := hM.look hT he hi hE hmask hH fun k ek hek hik hmk id hid => (hlat k ek hek hik hmk id hid).1
  have hp' := hp.le hle
  have ht : Turned (foldH (lst listed) tbl 0 H0) (foldH (lst (listed.setIfInBounds i true)) tbl 0 H0) e.base r := by
    refine foldH_turned he hk hi (by rw [lst_set hlt]; simp) (fun j hj => by rw [lst_set hlt]; simp [hj]) hbase (fun id hid => ?_) fun j ej hj hij hmj id hid => ?_
    · rw [hk] at hid
      obtain ⟨x, hx, hx0⟩ := hlive id hid
      have h1 := (hH id x hx hx0).1
      have := (List.getElem?_eq_some_iff.1 h1).1
      rwa [foldH_length, ← hbase] at this
    · obtain ⟨h1, h2⟩ := hlat j ej hj hij hmj id hid
      refine ⟨fun h => ?_, h2⟩
      rw [hk] at h
      obtain ⟨x, hx, hx0⟩ := hlive id h
      exact hx0 (h1 x hx)
  have hnn : e.k.newN = r.new.length := by rw [hk]; rfl
  refine ⟨by simp [hM.size], hM.newSet he (by rw [hk]; rfl) hmask, hM.frame hT he hi hE hp.sub (by unfold av0 EK.av; rw [hk]; exact hp.rep), hM.conc.turned hp' ht, fun j ej hj hej l k hl => ?_, fun id k hid => ?_, hM.sub.trans hp.sub, fun id k hid => ?_,
    hM.keeps.trans hp'.keepsOwned fun n hn ho => (hM.own n ho).resolve_right (by omega), fun n hn => ?_, by rw [Act.put_defers']; exact hM.defers, by rw [Act.put_size]; exact hM.nt⟩
  · rw [lst_set hlt] at hj
    by_cases hji : j = i
    · subst hji; simp at hj
    · simp only [if_neg hji] at hj
      rw [hp.only _ _ ?_]
      · exact hM.fresh1 j ej hj hej l k hl
      · rw [hbase]
        rcases Nat.lt_or_ge j i with h | h
        · have := newSum_take_le hej h; omega
        · have := newSum_take_le he (show i < j by omega); omega
  · have := newSum_take_all he
    rw [hp.only _ _ (by omega)]; exact hM.fresh2 id k hid
  · rw [hp.only _ _ (by omega)]; exact hM.only id k hid
  · rcases Owned.turned hp' ht hn with h | h
    · exact hM.own n h
    · exact .inr (Nat.le_trans hM.keeps.size h)

theorem Mid.skip (hT : TblOk P nt ops.toList fr0 H0 tbl) (hM : Mid nt tbl fr0 H0 π0 π w0 a0 listed a w) (he : tbl[i]? = some e) (hi : lst listed i = false) (hE : EntOk P nt ops.toList fr0 H0 (tbl.take i) o e) (hmask : ∀ k, Nat.testBit e.mask k = true → lst listed k = true)
    (hk : e.k = .skip) : Mid nt tbl fr0 H0 π0 π w0 a0 (listed.setIfInBounds i true) (a.put o.dst undef) w := by
  have hlt : i < listed.size := by rw [hM.size]; exact (List.getElem?_eq_some_iff.1 he).1
  have hH : foldH (lst (listed.setIfInBounds i true)) tbl 0 H0 = foldH (lst listed) tbl 0 H0 := by
    refine foldH_same fun j ej hj => ?_
    rw [lst_set hlt, Nat.zero_add]
    by_cases h : j = i
    · subst h; rw [he] at hj; cases hj
      exact .inr fun r hr => by rw [hk] at hr; cases hr
    · exact .inl (by simp [h])
  refine ⟨by simp [hM.size], hM.newSet he (by rw [hk]; rfl) hmask, hM.frame hT he hi hE (Sub.refl π) (by unfold av0 EK.av; rw [hk]; simp [Rep]), by rw [hH]; exact hM.conc, fun j ej hj hej l k hl => ?_, hM.fresh2, hM.sub, hM.only, hM.keeps, by rw [hH]; exact hM.own, by rw [Act.put_defers']; exact hM.defers, by rw [Act.put_size]; exact hM.nt⟩
  rw [lst_set hlt] at hj
  by_cases hji : j = i
  · subst hji; simp at hj
  · simp only [if_neg hji] at hj
    exact hM.fresh1 j ej hj hej l k hl

theorem Mid.start (ha : a.tmps.size = nt) (hf : FrOk π fr0 a.tmps) (hc : Conc π H0 w) (hfr : Fresh π H0.length) : Mid nt tbl fr0 H0 π π w a (Array.replicate tbl.length false) a w := by
  have hl : lst (Array.replicate tbl.length false) = fun _ => false := by
    funext k; unfold lst
    rw [Array.getD_eq_getD_getElem?, Array.getElem?_replicate]; split <;> rfl
  have hF : ∀ (t : Nat), (foldF av0 (fun _ => false) tbl 0 fr0).get t = fr0.get t := fun t => by
    rw [← foldF_take (n := 0) (fun _ _ _ _ => .inl rfl), List.take_zero]; rfl
  have hH : ∀ (tbl : List (Ent U)) (i : Nat) (H : Heap U), (foldH (fun _ => false) tbl i H).le H := by
    intro tbl
    induction tbl with
    | nil => intro i H id k b h; exact h
    | cons e tbl ih =>
      intro i H id k b h
      rw [foldH_cons] at h
      have := ih _ _ id k b h
      unfold stepH at this
      cases hk : e.k with
      | done r =>
        simp only [hk] at this
        unfold Heap.at at this ⊢
        by_cases hlt : id < H.length
        · rwa [List.getElem?_append_left hlt] at this
        · rw [List.getElem?_append_right (by omega)] at this
          cases hx : (nones U r.new.length)[id - H.length]? with
          | none => simp [hx] at this
          | some x => rw [hx, nones_get _ _ _ hx] at this; cases this
      | skip => simpa only [hk] using this
      | panic x => simpa only [hk] using this
      | dead => simpa only [hk] using this
  refine ⟨by simp, fun i ei h => ?_, fun t => ?_, by rw [hl]; exact hc.le (hH _ _ _), fun i ei _ _ j k _ => hfr _ _ (by omega), fun id k h => hfr id k (by omega), Sub.refl π, fun _ _ _ => rfl, Keeps.refl _ w, fun n hn => ?_, rfl, ha⟩
  · rw [hl] at h; cases h
  · rw [hl, hF]; exact hf t
  · rw [hl] at hn
    obtain ⟨id, k, b, p, hb, h⟩ := hn
    exact .inl ⟨id, k, b, p, hH _ _ _ _ _ _ hb, h⟩
end

/-- A frame whose slots that a region fills are not known. -/
def jkF : List Oper → Fr → Fr
  | [], fr => fr
  | o :: os, fr => match o.dst with
    | some d => (d, .junk) :: jkF os fr
    | none => jkF os fr
theorem jkF_get : ∀ (ops : List Oper) (fr : Fr) (t : Nat), (jkF ops fr).get t = .junk ∨ ((∀ o ∈ ops, o.dst ≠ some t) ∧ (jkF ops fr).get t = fr.get t)
  | [], fr, t => .inr ⟨fun o h => absurd h (by simp), rfl⟩
  | o :: os, fr, t => by
    unfold jkF
    cases hd : o.dst with
    | none =>
      simp only
      rcases jkF_get os fr t with h | ⟨h1, h2⟩
      · exact .inl h
      · refine .inr ⟨fun o' ho' => ?_, h2⟩
        rcases List.mem_cons.1 ho' with rfl | ho'
        · rw [hd]; simp
        · exact h1 o' ho'
    | some d =>
      simp only
      rw [Fr.get_cons]
      by_cases e : d = t
      · rw [if_pos e]; exact .inl rfl
      · rw [if_neg e]
        rcases jkF_get os fr t with h | ⟨h1, h2⟩
        · exact .inl h
        · refine .inr ⟨fun o' ho' => ?_, h2⟩
          rcases List.mem_cons.1 ho' with rfl | ho'
          · rw [hd]; simpa using e
          · exact h1 o' ho'
theorem foldF_off {v : Ent U → AV} : ∀ (tbl : List (Ent U)) (i : Nat) (fr : Fr), foldF v (fun _ => false) tbl i fr = fr
  | [], _, _ => rfl
  | e :: tbl, i, fr => by unfold foldF; exact foldF_off tbl (i + 1) fr

/-- A region that draws its order. -/
theorem region_ok {E : Env U} {ops : Array Oper} {fr0 : Fr} {H0 : Heap U} {K : Fr → Heap U → Prop} {KP : AV → Heap U → Prop} (hm : E.P.follows .mixedOrders = true)
    (h : DrawEnd E ops.toList fr0 H0 K KP) {rd : Option Nat} {n id : Nat} {Q : Exit → Act → World → Prop} {π : Plc} {w : World} {a : Act} (ha : a.tmps.size = E.nt) (hf : FrOk π fr0 a.tmps) (hc : Conc π H0 w) (hfr : Fresh π H0.length)
    (hK : ∀ fr H π' w' a', K fr H → Step π H0 w a fr H π' w' a' → Q .normal a' w')
    (hP : ∀ x H π' w' a' y, KP x H → Step π H0 w a (jkF ops.toList fr0) H π' w' a' → Rep π' x y → Q (.panic [{ v := y, recovered := false }]) a' w') :
    (Code.region id ops true).wpIn (Fw rd) n E.P Q a w := by
  obtain ⟨tbl, vs, htl, hT, hV, hend⟩ := h
  have hsz : tbl.length = ops.size := by rw [htl]; simp
  have hkd : Keeps (fun _ => False) w { w with drawn := w.drawn + 1 } := ⟨rfl, rfl, rfl, Nat.le_refl _, fun _ _ _ => rfl⟩
  -- the end
  have fin : ∀ (π' : Plc) (listed : Array Bool) (a' : Act) (w' : World), Mid E.nt tbl fr0 H0 π π' w a listed a' w' → (∀ k, k < tbl.length → lst listed k = true) → Q .normal a' w' := by
    intro π' listed a' w' hM hall
    rcases hend with ⟨hbad, hk⟩ | ⟨x, ⟨e, he, hx⟩, _⟩
    · have hF : ∀ t, (foldF av0 (lst listed) tbl 0 fr0).get t = (foldF av0 (fun _ => true) tbl 0 fr0).get t := fun t =>
        foldF_congr rfl fun j e hj => .inl (by rw [Nat.zero_add]; exact hall j (List.getElem?_eq_some_iff.1 hj).1)
      have hH : foldH (lst listed) tbl 0 H0 = foldH (fun _ => true) tbl 0 H0 :=
        foldH_same fun j e hj => .inl (by rw [Nat.zero_add]; exact hall j (List.getElem?_eq_some_iff.1 hj).1)
      refine hK _ _ π' w' a' hk ⟨fun t => foldV_rep hV (fun h => h) ?_, by rw [← hH]; exact hM.conc, by rw [foldH_length]; exact hM.fresh2, hM.sub, hM.only, hM.keeps, by rw [← hH]; exact hM.own, by rw [hM.nt, ha], hM.defers, by rw [foldH_length]; omega⟩
      rw [← hF]; exact hM.fr t
    · obtain ⟨k, hk⟩ := List.getElem?_of_mem he
      have := (hM.clo k e (hall k (List.getElem?_eq_some_iff.1 hk).1) hk).1
      rw [hx] at this; cases this
  have loop : ∀ (fuel : Nat) (π' : Plc) (listed : Array Bool) (a' : Act) (w' : World), Mid E.nt tbl fr0 H0 π π' w a listed a' w' → (listed.toList.countP (fun b => !b)) ≤ fuel → wpAnyIn (Fw rd) n E.P .any ops Q fuel listed a' w' := by
    intro fuel
    -- that nothing is ready means that all is done
    have none : ∀ (π' : Plc) (listed : Array Bool) (a' : Act) (w' : World), Mid E.nt tbl fr0 H0 π π' w a listed a' w' → Region.ready .any ops listed = [] → ∀ k, k < tbl.length → lst listed k = true := by
      intro π' listed a' w' hM hr k
      induction k using Nat.strongRecOn with
      | ind k ih =>
        intro hk
        cases hlk : lst listed k with
        | true => rfl
        | false =>
          exfalso
          obtain ⟨o, ho, hE⟩ := hT k _ (List.getElem?_eq_getElem hk)
          have : k ∈ Region.ready .any ops listed := by
            rw [mem_ready]
            refine ⟨?_, o, by rw [← Array.getElem?_toList]; exact ho, fun ed hed hb => ?_⟩
            · have hks : k < listed.size := by rw [hM.size]; exact hk
              unfold lst at hlk; simp [hks] at hlk ⊢; exact hlk
            · have := (hE.dep ed (by simpa using hed) hb).1
              rw [List.length_take] at this
              exact ih ed.on (by omega) (by omega)
          rw [hr] at this; cases this
    induction fuel with
    | zero =>
      intro π' listed a' w' hM hc0
      have hall : ∀ k, k < tbl.length → lst listed k = true := by
        intro k hk
        have hks : k < listed.size := by rw [hM.size]; exact hk
        have h0 : listed.toList.countP (fun b => !b) = 0 := by omega
        rw [List.countP_eq_zero] at h0
        have := h0 (listed[k]) (by simp)
        unfold lst; simp [hks] at this ⊢; exact this
      refine ⟨?_, fin π' listed a' w' hM hall⟩
      cases hr : Region.ready .any ops listed with
      | nil => rfl
      | cons k ks =>
        have hk : k ∈ Region.ready .any ops listed := by rw [hr]; simp
        rw [mem_ready] at hk
        obtain ⟨h1, o, ho, _⟩ := hk
        have hks : k < ops.size := (Array.getElem?_eq_some_iff.1 ho).1
        have h2 := hall k (by omega)
        unfold lst at h2
        have hls : k < listed.size := by rw [hM.size]; omega
        simp [hls] at h1 h2; rw [h2] at h1; cases h1
    | succ fuel ih =>
      intro π' listed a' w' hM hcf
      refine ⟨fun hr => fin π' listed a' w' hM (none π' listed a' w' hM hr), fun i hi => ?_⟩
      rw [mem_ready] at hi
      obtain ⟨h1, o, ho, hdep⟩ := hi
      have his : i < ops.size := (Array.getElem?_eq_some_iff.1 ho).1
      have hil : i < tbl.length := by omega
      have hls : i < listed.size := by rw [hM.size]; exact hil
      have hli : lst listed i = false := by unfold lst; simp [hls] at h1 ⊢; exact h1
      obtain ⟨e, he⟩ : ∃ e, tbl[i]? = some e := ⟨_, List.getElem?_eq_getElem hil⟩
      obtain ⟨o', ho', hE⟩ := hT i e he
      have : o' = o := by rw [Array.getElem?_toList, ho] at ho'; exact (Option.some.inj ho').symm
      subst this
      have hmask := hM.mask hT hE fun ed hed hb => hdep ed (by simpa using hed) hb
      have hcnt : (listed.setIfInBounds i true).toList.countP (fun b => !b) ≤ fuel := by
        have hb : listed.toList[i]? = some false := by
          unfold lst at hli; simp [hls] at hli; simp [hls, hli]
        have : ∀ (l : List Bool) (i : Nat), l[i]? = some false → (l.set i true).countP (fun b => !b) + 1 = l.countP (fun b => !b) := by
          intro l
          induction l with
          | nil => intro i h; simp at h
          | cons b l ih2 =>
            intro i h
            cases i with
            | zero => simp at h; subst h; simp
            | succ i =>
              have := ih2 i (by simpa using h)
              simp only [List.set_cons_succ, List.countP_cons]; omega
        have h3 := this _ _ hb
        rw [Array.toList_setIfInBounds]; omega
      unfold wpOpIn
      rw [ho]
      simp only
      have hkind := hE.kind
      have bad : (∃ (k : Nat) (ek : Ent U), Nat.testBit e.mask k = true ∧ (tbl.take i)[k]? = some ek ∧ ek.k.bad = true) → False := by
        rintro ⟨k, ek, hk1, hk2, hk3⟩
        have : tbl[k]? = some ek := by
          rw [List.getElem?_take] at hk2
          split at hk2
          · exact hk2
          · cases hk2
        rw [(hM.clo k ek (hmask k hk1) this).1] at hk3; cases hk3
      cases hk : e.k with
      | dead =>
        rw [hk] at hkind
        exact (bad hkind).elim
      | skip =>
        rw [hk] at hkind
        rw [hM.wantedNo hT he hli hE hmask hkind.1]
        exact ⟨fun _ _ => trivial, ih π' _ _ _ (hM.skip hT he hli hE hmask hk) hcnt⟩
      | done r =>
        rw [hk] at hkind
        simp only at hkind
        rw [hM.wantedYes hT he hli hE hmask hkind.1, if_pos rfl]
        obtain ⟨_, _, hH, ⟨ρ, hρ, hop⟩, _, _⟩ := hkind
        have hlat : ∀ (k : Nat) (ek : Ent U), tbl[k]? = some ek → i < k → lst listed k = true → ∀ id ∈ ek.k.mods, ∀ x, e.H[id]? = some x → x = .none := by
          intro k ek hek hik hmk id hid x hx
          obtain ⟨ok, _, hEk⟩ := hT k ek hek
          have hbit := (hM.later hT he hli hek hik hmk).2.1
          have hkd := hEk.kind
          cases hkk : ek.k with
          | done rk =>
            rw [hkk] at hkd hid
            exact hkd.2.2.2.2.1 i e (by rw [List.getElem?_take, if_pos hik]; exact he) hbit id hid x hx
          | skip => rw [hkk] at hid; simp [EK.mods] at hid
          | panic x => rw [hkk] at hid; simp [EK.mods] at hid
          | dead => rw [hkk] at hid; simp [EK.mods] at hid
        have hle := hM.look hT he hli hE hmask hH hlat
        refine Oper.wpIn_both (fun a2 w2 h2 => ?_) (fun _ _ _ h => h.elim) (hop rd n π' w' a' (hM.conc.le hle) (hρ π' a' (hM.slots hT he hli hE hmask)) fun j k hj => ?_)
        · obtain ⟨v, πn, rfl, hp⟩ := h2
          exact ih πn _ _ _ (hM.done hT he hli hE hmask hk hp) hcnt
        · rw [hE.base]; exact hM.fresh1 i e hli he j k (by rw [hk]; exact hj)
      | panic x =>
        rw [hk] at hkind
        simp only at hkind
        rw [hM.wantedYes hT he hli hE hmask hkind.1, if_pos rfl]
        obtain ⟨_, _, hH, ρ, hρ, hop⟩ := hkind
        have hlat : ∀ (k : Nat) (ek : Ent U), tbl[k]? = some ek → i < k → lst listed k = true → ∀ id ∈ ek.k.mods, ∀ x, e.H[id]? = some x → x = .none := by
          intro k ek hek hik hmk id hid x' hx'
          obtain ⟨ok, _, hEk⟩ := hT k ek hek
          have hbit := (hM.later hT he hli hek hik hmk).2.1
          have hkd := hEk.kind
          cases hkk : ek.k with
          | done rk =>
            rw [hkk] at hkd hid
            exact hkd.2.2.2.2.1 i e (by rw [List.getElem?_take, if_pos hik]; exact he) hbit id hid x' hx'
          | skip => rw [hkk] at hid; simp [EK.mods] at hid
          | panic x => rw [hkk] at hid; simp [EK.mods] at hid
          | dead => rw [hkk] at hid; simp [EK.mods] at hid
        have hle := hM.look hT he hli hE hmask hH hlat
        refine Oper.wpIn_both (fun _ _ h => h.elim) (fun ex a2 w2 h2 => ?_) (hop rd n π' w' a' (hM.conc.le hle) (hρ π' a' (hM.slots hT he hli hE hmask)))
        obtain ⟨y, rfl, rfl, hy, hkp⟩ := h2
        rcases hend with ⟨hbad, _⟩ | ⟨x', _, huni, hKP⟩
        · have := hbad e (List.mem_of_getElem? he)
          rw [hk] at this; cases this
        · have hxx := huni e (List.mem_of_getElem? he) x hk
          subst hxx
          have hlen : (killAll (allMods tbl) H0 ++ nones U (newSum tbl)).length = H0.length + newSum tbl := by rw [List.length_append, killAll_length, nones_length]
          have hold : ∀ id k b, (killAll (allMods tbl) H0 ++ nones U (newSum tbl)).at id k = some b → H0.at id k = some b ∧ id < H0.length ∧ (foldH (lst listed) tbl 0 H0).at id k = some b := by
            intro id k b hb
            unfold Heap.at at hb
            by_cases hid : id < H0.length
            · rw [List.getElem?_append_left (by rw [killAll_length]; exact hid)] at hb
              have hx : ∃ x, (killAll (allMods tbl) H0)[id]? = some x ∧ x ≠ .none := by
                split at hb
                · rename_i h; exact ⟨_, h, by simp⟩
                · rename_i h; exact ⟨_, h, by simp⟩
                · cases hb
              obtain ⟨x, hx, hx0⟩ := hx
              obtain ⟨hn, hx2⟩ := killAll_get hx hx0
              have h3 : (killAll (allMods tbl) H0)[id]? = H0[id]? := hx.trans hx2.symm
              have h4 : (foldH (lst listed) tbl 0 H0)[id]? = H0[id]? := foldH_untouched hid fun e he h => hn (allMods_mem he id h)
              rw [h3] at hb
              exact ⟨hb, hid, (at_congr h4).trans hb⟩
            · rw [List.getElem?_append_right (by rw [killAll_length]; omega)] at hb
              cases hx : (nones U (newSum tbl))[id - (killAll (allMods tbl) H0).length]? with
              | none => simp [hx] at hb
              | some x => rw [hx, nones_get _ _ _ hx] at hb; cases hb
          refine hP x _ π' w2 a2 y hKP ⟨fun t => ?_, ?_, by rw [hlen]; exact hM.fresh2, hM.sub, hM.only, hM.keeps.trans hkp (fun _ _ h => h.elim), fun n hn => ?_, by rw [hM.nt, ha], hM.defers, by rw [hlen]; omega⟩ hy
          · rcases jkF_get ops.toList fr0 t with hj | ⟨hj1, hj2⟩
            · rw [hj]; simp [Rep]
            · rw [hj2]
              have h5 : (foldF av0 (lst listed) tbl 0 fr0).get t = fr0.get t := by
                have := foldF_congr (v := av0) (m := lst listed) (m' := fun _ => false) (t := t) (tbl := tbl) (i := 0) (fr := fr0) (fr' := fr0) rfl fun j e hj => .inr (by
                  obtain ⟨o, ho, hE⟩ := hT j e hj
                  rw [hE.dst]; exact hj1 o (List.mem_of_getElem? ho))
                rw [this, foldF_off]
              rw [← h5]; exact hM.fr t
          · refine (hM.conc.le fun id k b hb => (hold id k b hb).2.2).keep (Sub.refl π') fun id k b p hb hpl hph => ?_
            obtain ⟨p', hp', hok⟩ := hM.conc.ok id k b (hold id k b hb).2.2
            rw [hpl] at hp'; cases hp'
            exact hkp.block _ (hok.lt hph) (fun h => h)
          · obtain ⟨id, k, b, p, hb, ho, hpl, hph, hn⟩ := hn
            obtain ⟨h1, h2, _⟩ := hold id k b hb
            rw [hM.only id k h2] at hpl
            exact .inl ⟨id, k, b, p, h1, ho, hpl, hph, hn⟩
  refine wpIn_region_any hm ?_
  have hst := Mid.start (tbl := tbl) (nt := E.nt) ha hf hc hfr
  rw [← hsz]
  refine loop tbl.length π _ a _ ?_ ?_
  · exact ⟨hst.size, hst.clo, hst.fr, hst.conc.keep (Sub.refl π) (fun _ _ _ _ _ _ _ => rfl), hst.fresh1, hst.fresh2, hst.sub, hst.only, hkd.weaken (fun _ _ h => h.elim), hst.own, hst.defers, hst.nt⟩
  · refine Nat.le_trans (List.countP_le_length) ?_
    simp
end AE
