/- An own symbolic executor: a state seen as another one, its blocks numbered otherwise. No condition. -/
import Derived.Test.YtfhpdgmhdppggaaAe25
namespace AE
open Go

variable {U : Uni}

/-- Objects that an abstract block can be. -/
def plainObj (o : Obj) : Prop := (∃ cs t z, o = .cells cs t z) ∨ ∃ es ck, o = .map es ck

theorem Owned.obj {π : Plc} {H : Heap U} {w : World} (hc : Conc π H w) {n : Nat} (h : Owned π H n) : ∃ o, w.heap[n]? = some o ∧ plainObj o := by
  obtain ⟨id, k, b, p, hb, ho, hp, hph, rfl⟩ := h
  obtain ⟨p', hp', hok⟩ := hc.ok id k b hb
  rw [hp] at hp'; cases hp'
  cases b with
  | cells vs t => obtain ⟨h0, cs, h1, h2⟩ := hok; exact ⟨_, h1, .inl ⟨_, _, _, rfl⟩⟩
  | rc vs t => obtain ⟨h0, cs, h1, h2⟩ := hok; exact ⟨_, h1, .inl ⟨_, _, _, rfl⟩⟩
  | row c l t =>
    obtain ⟨h0, h1, h2, h3, cs, h4, h5⟩ := hok
    rcases h5.2 with ⟨e, hn⟩ | ⟨g, cap, cur, e, hbg, hg, _⟩
    · simp only [Place.sv, Value.slice.injEq] at e; exact absurd e.1 hph
    · have hsa : p.sa = some ⟨g, 0, none⟩ := by simp only [Place.sv, Value.slice.injEq] at e; exact e.1
      have hg' : g = p.blk := by simpa using congrArg Addr.block (h3 _ hsa)
      subst hg'; exact ⟨_, hg, .inl ⟨_, _, _, rfl⟩⟩
  | ro c l => cases ho
  | map m l => obtain ⟨es, ck, h1, _⟩ := hok; exact ⟨_, h1, .inr ⟨_, _, rfl⟩⟩
  | mrow o vs => obtain ⟨es, ck, ks, h1, _⟩ := hok; exact ⟨_, h1, .inr ⟨_, _, rfl⟩⟩

/-- Where a function set out. x: blocks of another kind that may turn besides; J: what is so of these, by the jump that waits. -/
structure Base (U : Uni) where
  π : Plc
  H : Heap U
  w : World
  nt : Nat
  fresh : Fresh π H.length
  x : Nat → Prop := fun _ => False
  J : Option Code → World → Prop := fun _ _ => True
  Jk : ∀ p w w', (∀ n, x n → w'.heap[n]? = w.heap[n]?) → J p w → J p w' := by intros; trivial
  Jx : ∀ p w n, J p w → x n → ∃ o, w.heap[n]? = some o ∧ ¬ plainObj o := by intro _ _ _ _ h; exact h.elim

/-- A function's own beginning. -/
abbrev Base.of (π : Plc) (H : Heap U) (w : World) (nt : Nat) (fresh : Fresh π H.length) : Base U := { π := π, H := H, w := w, nt := nt, fresh := fresh }

/-- Calls that are put off; marks of loops; a jump that waits. -/
inductive DfE where
  | call (f : Fn) (xs ys : List AV)
  | mark
  | pend (j : Code)
abbrev Df := List DfE
def pendOf : Df → Option Code
  | .pend j :: _ => some j
  | _ => none
def DfOk (lo : Nat) (π : Plc) (w : World) : Df → List Deferred → Prop
  | [], ds => ds = []
  | .call f xs ys :: l, ds => ∃ cap args ds', ds = { target := .fn f cap, args := args } :: ds' ∧ RepL π xs cap.toList ∧ RepL π ys args.toList ∧ DfOk lo π w l ds'
  | .mark :: l, ds => ∃ D ds', ds = { target := .collected D, args := #[] } :: ds' ∧ w.heap[D]? = some (.deferred (some [])) ∧ lo ≤ D ∧ (∀ d ∈ ds', d.target ≠ .collected D) ∧ DfOk lo π w l ds'
  | .pend _ :: l, ds => DfOk lo π w l ds
theorem DfOk.mono {lo : Nat} {π π' : Plc} (h : Sub π π') {w w' : World} (hw : ∀ D : Nat, w.heap[D]? = some (Obj.deferred (some [])) → w'.heap[D]? = some (Obj.deferred (some []))) : ∀ {l : Df} {ds : List Deferred}, DfOk lo π w l ds → DfOk lo π' w' l ds
  | [], ds, e => e
  | .call f xs ys :: l, ds, ⟨cap, args, ds', e, h1, h2, h3⟩ => ⟨cap, args, ds', e, h1.mono h, h2.mono h, DfOk.mono h hw h3⟩
  | .mark :: l, ds, ⟨D, ds', e, h1, h2, h3, h4⟩ => ⟨D, ds', e, hw D h1, h2, h3, DfOk.mono h hw h4⟩
  | .pend j :: l, ds, e => DfOk.mono (l := l) h hw e

/-- Where a function stands. -/
structure St (B : Base U) (fr : Fr) (df : Df) (H : Heap U) (π : Plc) (w : World) (a : Act) : Prop where
  fr : FrOk π fr a.tmps
  conc : Conc π H w
  fresh : Fresh π H.length
  only : ∀ id k, id < B.H.length → π id k = B.π id k
  keeps : Keeps (fun n => Owned B.π B.H n ∨ B.x n) B.w w
  own : ∀ n, Owned π H n → Owned B.π B.H n ∨ B.w.heap.size ≤ n
  nt : a.tmps.size = B.nt
  j : B.J (pendOf df) w
  df : DfOk B.w.heap.size π w df a.defers
  len : B.H.length ≤ H.length

theorem St.sub {B : Base U} {fr : Fr} {df : Df} {H : Heap U} {π : Plc} {w : World} {a : Act} (h : St B fr df H π w a) : Sub B.π π := by
  intro id k p hp
  by_cases hi : id < B.H.length
  · rw [h.only id k hi]; exact hp
  · rw [B.fresh id k (by omega)] at hp; cases hp

/-- Blocks of another kind stand while owned ones turn. -/
theorem Keeps.other {π : Plc} {H : Heap U} {w w' : World} (hc : Conc π H w) (hk : Keeps (Owned π H) w w') {n : Nat} {o : Obj} (ho : w.heap[n]? = some o) (hp : ¬ plainObj o) : w'.heap[n]? = some o := by
  rw [hk.block n (Array.getElem?_eq_some_iff.1 ho).1 fun h => ?_]; exact ho
  obtain ⟨o', ho', hp'⟩ := h.obj hc
  rw [ho] at ho'; cases ho'; exact hp hp'

theorem not_plain_deferred {ds : Option (List Deferred)} : ¬ plainObj (Obj.deferred ds) := by
  rintro (⟨_, _, _, h⟩ | ⟨_, _, h⟩) <;> cases h

theorem St.step {B : Base U} {fr fr' : Fr} {df : Df} {H H' : Heap U} {π π' : Plc} {w w' : World} {a a' : Act} (h : St B fr df H π w a) (k : Step π H w a fr' H' π' w' a') : St B fr' df H' π' w' a' where
  fr := k.fr
  conc := k.conc
  fresh := k.fresh
  only := fun id j hi => (k.only id j (Nat.lt_of_lt_of_le hi h.len)).trans (h.only id j hi)
  keeps := h.keeps.trans k.keeps fun n hn ho => .inl ((h.own n ho).resolve_right (by omega))
  own := fun n hn => by
    rcases k.own n hn with h1 | h1
    · exact h.own n h1
    · exact .inr (Nat.le_trans h.keeps.size h1)
  nt := k.nt.trans h.nt
  df := by rw [k.defers]; exact h.df.mono k.sub fun D hD => k.keeps.other h.conc hD not_plain_deferred
  len := Nat.le_trans h.len k.len
  j := B.Jk _ _ _ (fun n hx => by
    obtain ⟨o, ho, hp⟩ := B.Jx _ _ n h.j hx
    rw [ho]; exact k.keeps.other h.conc ho hp) h.j

/-! ### seen otherwise -/
def lookN : List (Nat × Nat) → Nat → Nat
  | [], i => i
  | (a, b) :: l, i => match Nat.beq a i with
    | true => b
    | false => lookN l i
def sg (m : Nat) (l : List (Nat × Nat)) (i : Nat) : Nat :=
  match Nat.blt i m with
  | true => i
  | false => lookN l i
def Plc.ren (π : Plc) (σ : Nat → Nat) (N : Nat) : Plc := fun id k => if id < N then π (σ id) k else none

def idB (σ : Nat → Nat) (N id id' : Nat) : Bool := Nat.beq (σ id') id && Nat.blt id' N
theorem idB_ok {σ : Nat → Nat} {N id id' : Nat} (h : idB σ N id id' = true) : σ id' = id ∧ id' < N := by
  unfold idB at h
  rw [Bool.and_eq_true] at h
  exact ⟨Nat.eq_of_beq_eq_true h.1, by simpa using h.2⟩

/-- The number of no block: of slices without elements. -/
def noId : Nat := 999999999
mutual
def leV (H : Heap U) (σ : Nat → Nat) (N : Nat) : AV → AV → Prop
  | _, .junk => True
  | .tt, .tt => True
  | .ff, .ff => True
  | .tt, .v y => y = .bool true
  | .ff, .v y => y = .bool false
  | .v x, .tt => x = .bool true
  | .v x, .ff => x = .bool false
  | .v x, .v y => x = y
  | .ptr id k i fo, .ptr id' k' i' fo' => isB (idB σ N id id') (k = k' ∧ i = i' ∧ fo = fo')
  | .sl id k off len, .sl id' k' off' len' => match Nat.beq id' noId with
    | true => len = 0 ∧ len' = 0
    | false => isB (idB σ N id id') (k = k' ∧ off = off' ∧ len = len')
  | .v (.slice none 0 0), .sl id' _ _ len' => isB (Nat.beq id' noId) (len' = 0)
  | .gs id k, .gs id' k' => isB (idB σ N id id') (k = k')
  | .gs id k, .sl id' k' off' len' => isB (idB σ N id id') (view H (.gs id k) fun _ _ i2 k2 off len => i2 = id ∧ k2 = k' ∧ off = off' ∧ len = len')
  | .map id k, .map id' k' => isB (idB σ N id id') (k = k')
  | .fn f xs ys, .fn f' xs' ys' => f = f' ∧ leL H σ N xs xs' ∧ leL H σ N ys ys'
  | .ifc t x, .ifc t' x' => t = t' ∧ leV H σ N x x'
  | .agg xs, .agg xs' => leL H σ N xs xs'
  | .tup xs, .tup xs' => leL H σ N xs xs'
  | .alt c a b, .alt c' a' b' => c = c' ∧ leV H σ N a a' ∧ leV H σ N b b'
  | a, .alt c' a' b' => (c' = true → leV H σ N a a') ∧ (c' = false → leV H σ N a b')
  | _, _ => False
def leL (H : Heap U) (σ : Nat → Nat) (N : Nat) : List AV → List AV → Prop
  | [], [] => True
  | x :: xs, y :: ys => leV H σ N x y ∧ leL H σ N xs ys
  | _, _ => False
end

theorem ren_some {π : Plc} {σ : Nat → Nat} {N id id' k : Nat} {p : Place} (h : idB σ N id id' = true) (hp : π id k = some p) : π.ren σ N id' k = some p := by
  obtain ⟨h1, h2⟩ := idB_ok h
  unfold Plc.ren; rw [if_pos h2, h1]; exact hp

mutual
theorem leV_ok {H : Heap U} {π : Plc} {w : World} (hc : Conc π H w) {σ : Nat → Nat} {N : Nat} : ∀ {a b : AV} {y : Value}, leV H σ N a b → Rep π a y → Rep (π.ren σ N) b y := by
  intro a b y h hr
  cases b with
  | junk => simp [Rep]
  | tt => cases a <;> simp_all [leV, Rep]
  | ff => cases a <;> simp_all [leV, Rep]
  | v x => cases a <;> simp_all [leV, Rep]
  | ptr id k i fo =>
    cases a <;> simp only [leV] at h <;> try exact h.elim
    obtain ⟨hb, rfl, rfl, rfl⟩ := isB_ok h
    simp only [Rep] at hr ⊢
    obtain ⟨p, hp, e⟩ := hr
    exact ⟨p, ren_some hb hp, e⟩
  | sl id k off len =>
    have hnil : ∀ x, a = .v x → Rep (π.ren σ N) (.sl id k off len) y := by
      intro x hx
      subst hx
      have hx : x = .slice none 0 0 := by
        cases x with
        | slice sa n c =>
          cases sa with
          | none => cases n with
            | zero => cases c with
              | zero => rfl
              | succ c => exact h.elim
            | succ n => exact h.elim
          | some s => exact h.elim
        | _ => exact h.elim
      subst hx
      simp only [leV] at h
      obtain ⟨_, rfl⟩ := isB_ok h
      simp only [Rep] at hr ⊢
      exact ⟨none, 0, hr, Nat.le_refl _, fun hl => absurd hl (Nat.lt_irrefl _)⟩
    cases a
    case v x => exact hnil x rfl
    all_goals (simp only [leV] at h; try exact h.elim)
    · split at h
      · obtain ⟨rfl, rfl⟩ := h
        simp only [Rep] at hr ⊢
        obtain ⟨ad, c, e, hlc, hh⟩ := hr
        exact ⟨ad, c, e, hlc, fun hl => absurd hl (Nat.lt_irrefl _)⟩
      obtain ⟨hb, rfl, rfl, rfl⟩ := isB_ok h
      simp only [Rep] at hr ⊢
      obtain ⟨ad, c, e, hlc, hh⟩ := hr
      exact ⟨ad, c, e, hlc, fun hl => let ⟨p, hp, ha⟩ := hh hl; ⟨p, ren_some hb hp, ha⟩⟩
    · obtain ⟨hb, hv⟩ := isB_ok h
      obtain ⟨c, l, i2, k2, off2, len2, ⟨rfl, rfl, rfl, rfl⟩, hh⟩ := view_ok hv
      obtain ⟨p, ad, cap, hp, _, rfl, hlc, ha, _⟩ := hh π w y hc hr
      simp only [Rep]
      exact ⟨ad, cap, rfl, hlc, fun hl => ⟨p, ren_some hb hp, ha hl⟩⟩
  | gs id k =>
    cases a <;> simp only [leV] at h <;> try exact h.elim
    obtain ⟨hb, rfl⟩ := isB_ok h
    simp only [Rep] at hr ⊢
    obtain ⟨p, hp, e⟩ := hr
    exact ⟨p, ren_some hb hp, e⟩
  | map id k =>
    cases a <;> simp only [leV] at h <;> try exact h.elim
    obtain ⟨hb, rfl⟩ := isB_ok h
    simp only [Rep] at hr ⊢
    obtain ⟨p, hp, e⟩ := hr
    exact ⟨p, ren_some hb hp, e⟩
  | fn f xs ys =>
    cases a <;> simp only [leV] at h <;> try exact h.elim
    obtain ⟨rfl, h1, h2⟩ := h
    simp only [Rep] at hr ⊢
    obtain ⟨a, b, e, k1, k2⟩ := hr
    exact ⟨a, b, e, leL_ok hc h1 k1, leL_ok hc h2 k2⟩
  | ifc t x =>
    cases a <;> simp only [leV] at h <;> try exact h.elim
    obtain ⟨rfl, h1⟩ := h
    simp only [Rep] at hr ⊢
    obtain ⟨z, e, k⟩ := hr
    exact ⟨z, e, leV_ok hc h1 k⟩
  | agg xs =>
    cases a <;> simp only [leV] at h <;> try exact h.elim
    simp only [Rep] at hr ⊢
    obtain ⟨z, e, k⟩ := hr
    exact ⟨z, e, leL_ok hc h k⟩
  | tup xs =>
    cases a <;> simp only [leV] at h <;> try exact h.elim
    simp only [Rep] at hr ⊢
    obtain ⟨z, e, k⟩ := hr
    exact ⟨z, e, leL_ok hc h k⟩
  | alt c x z =>
    have key : (∀ d p q, a ≠ .alt d p q) → (c = true → leV H σ N a x) ∧ (c = false → leV H σ N a z) := by
      intro hne
      cases a <;> simp only [leV] at h <;> first | exact h | exact absurd rfl (hne _ _ _)
    simp only [Rep]
    by_cases hh : ∃ d p q, a = .alt d p q
    · obtain ⟨d, p, q, rfl⟩ := hh
      simp only [leV] at h
      obtain ⟨rfl, h1, h2⟩ := h
      simp only [Rep] at hr
      exact ⟨fun hc' => leV_ok hc h1 (hr.1 hc'), fun hc' => leV_ok hc h2 (hr.2 hc')⟩
    · obtain ⟨h1, h2⟩ := key fun d p q e => hh ⟨d, p, q, e⟩
      exact ⟨fun hc' => leV_ok hc (h1 hc') hr, fun hc' => leV_ok hc (h2 hc') hr⟩
theorem leL_ok {H : Heap U} {π : Plc} {w : World} (hc : Conc π H w) {σ : Nat → Nat} {N : Nat} : ∀ {xs xs' : List AV} {ys : List Value}, leL H σ N xs xs' → RepL π xs ys → RepL (π.ren σ N) xs' ys := by
  intro xs xs' ys h hr
  cases xs' with
  | nil => cases xs with
    | nil => simpa [RepL] using hr
    | cons x xs => simp [leL] at h
  | cons x' xs' => cases xs with
    | nil => simp [leL] at h
    | cons x xs =>
      simp only [leL] at h
      simp only [RepL] at hr ⊢
      obtain ⟨z, zs, e, h1, h2⟩ := hr
      exact ⟨z, zs, e, leV_ok hc h.1 h1, leL_ok hc h.2 h2⟩
end

def fixB : AB1 U → Bool
  | .cells vs _ => fixedL vs
  | .rc vs _ => fixedL vs
  | .row c _ _ => U.pl c
  | .ro c _ => U.pl c
  | .map m _ => U.mpl m
  | .mrow _ vs => fixedL vs
theorem fixB_ok {π π' : Plc} {w : World} {p : Place} {b : AB1 U} (h : fixB b = true) (hb : BlkOk π w p b) : BlkOk π' w p b := by
  cases b with
  | cells vs t => obtain ⟨h0, cs, h1, h2⟩ := hb; exact ⟨h0, cs, h1, RepL.fixed h h2⟩
  | rc vs t => obtain ⟨h0, cs, h1, h2⟩ := hb; exact ⟨h0, cs, h1, RepL.fixed h h2⟩
  | row c l t =>
    obtain ⟨h0, h1, h2, h3, cs, h4, h5⟩ := hb
    refine ⟨h0, h1, h2, h3, cs, RepL.fixed (fixedL_of fun a ha => ?_) h4, h5⟩
    obtain ⟨x, _, hx⟩ := List.mem_flatMap.1 ha
    exact U.plok c h x a hx
  | ro c l =>
    obtain ⟨h1, h2⟩ := hb
    exact ⟨h1, fun i x hi j a ha => let ⟨y, hy, hr⟩ := h2 i x hi j a ha; ⟨y, hy, hr.fixed (U.plok c h x a (List.mem_of_getElem? ha))⟩⟩
  | map m l =>
    obtain ⟨es, ck, h1, h2, h3, h4, h5⟩ := hb
    refine ⟨es, ck, h1, h2, h3, RepL.fixed (fixedL_of fun a ha => ?_) h4, h5⟩
    obtain ⟨x, _, rfl⟩ := List.mem_map.1 ha
    exact U.mplok m h x
  | mrow o vs =>
    obtain ⟨es, ck, ks, h1, h2, h3, h4, h5, h6⟩ := hb
    have hfx : ∀ k, k < vs.length → (vs.getD k .junk).fixed = true := fun k hk => by
      rw [List.getD_eq_getElem?_getD, List.getElem?_eq_getElem hk]
      exact fixedL_get h _ (List.getElem_mem hk)
    refine ⟨es, ck, ks, h1, h2, h3, h4, RepL.fixed (fixedL_of fun a ha => ?_) h5, fun k hk hn => (h6 k hk hn).fixed (hfx k hk)⟩
    obtain ⟨k, hk, rfl⟩ := List.mem_map.1 ha
    exact hfx k (h3 k hk)

theorem leL_length {H : Heap U} {σ : Nat → Nat} {N : Nat} : ∀ {xs ys : List AV}, leL H σ N xs ys → xs.length = ys.length
  | [], [], _ => rfl
  | [], _ :: _, h => by simp [leL] at h
  | _ :: _, [], h => by simp [leL] at h
  | x :: xs, y :: ys, h => by simp only [leL] at h; simp [leL_length h.2]
theorem leL_get {H : Heap U} {σ : Nat → Nat} {N : Nat} : ∀ {xs ys : List AV}, leL H σ N xs ys → ∀ {k : Nat}, k < xs.length → leV H σ N (xs.getD k .junk) (ys.getD k .junk)
  | [], [], _, k, hk => by simp at hk
  | [], _ :: _, h, _, _ => by simp [leL] at h
  | _ :: _, [], h, _, _ => by simp [leL] at h
  | x :: xs, y :: ys, h, k, hk => by
    simp only [leL] at h
    cases k with
    | zero => simpa using h.1
    | succ k => simpa using leL_get h.2 (k := k) (by simpa using hk)

def leB1 (H : Heap U) (σ : Nat → Nat) (N : Nat) : AB1 U → AB1 U → Prop
  | .cells vs t, .cells vs' t' => eqB t t' (leL H σ N vs vs')
  | .cells vs t, .rc vs' t' => eqB t t' (leL H σ N vs vs')
  | .rc vs t, .rc vs' t' => eqB t t' (leL H σ N vs vs')
  | .row c l t, .ro c' l' => match U.deq c c' with
    | .isTrue e => isB (U.pl c) (e ▸ l = l')
    | .isFalse _ => False
  | .row c l t, .row c' l' t' => match U.deq c c' with
    | .isTrue e => isB (U.pl c) (t = t' ∧ e ▸ l = l')
    | .isFalse _ => False
  | .ro c l, .ro c' l' => match U.deq c c' with
    | .isTrue e => isB (U.pl c) (e ▸ l = l')
    | .isFalse _ => False
  | .map m l, .map m' l' => match U.mdeq m m' with
    | .isTrue e => isB (U.mpl m) (e ▸ l = l')
    | .isFalse _ => False
  | .mrow o vs, .mrow o' vs' => isB (o || !o') (leL H σ N vs vs')
  | _, _ => False

theorem leB1_ok {H : Heap U} {π : Plc} {w : World} (hc : Conc π H w) {σ : Nat → Nat} {N : Nat} {p : Place} {b b' : AB1 U} (h : leB1 H σ N b b') (hb : BlkOk π w p b) : BlkOk (π.ren σ N) w p b' ∧ (b'.own = true → b.own = true) ∧ (b'.phys p → b.phys p) := by
  have cel : ∀ {vs vs' : List AV} {t t' : TypeId}, eqB t t' (leL H σ N vs vs') → BlkOk π w p (.cells vs t : AB1 U) → BlkOk (π.ren σ N) w p (.cells vs' t' : AB1 U) := by
    intro vs vs' t t' h hb
    obtain ⟨rfl, h'⟩ := eqB_ok h
    obtain ⟨h0, cs, h1, h2⟩ := hb
    exact ⟨h0, cs, h1, leL_ok hc h' h2⟩
  cases b with
  | cells vs t =>
    cases b' <;> simp only [leB1] at h <;> try exact h.elim
    · exact ⟨cel h hb, fun h => h, fun h => h⟩
    · exact ⟨cel h hb, fun h => rfl, fun h => h⟩
  | rc vs t =>
    cases b' <;> simp only [leB1] at h <;> try exact h.elim
    exact ⟨cel h hb, fun h => h, fun h => h⟩
  | row c l t =>
    cases b' <;> simp only [leB1] at h <;> try exact h.elim
    · split at h
      · rename_i e _
        obtain ⟨hp, rfl, h'⟩ := isB_ok h
        subst e; subst h'
        exact ⟨fixB_ok (b := .row _ _ _) hp hb, fun h => h, fun h => h⟩
      · exact h.elim
    · split at h
      · rename_i e _
        obtain ⟨hp, h'⟩ := isB_ok h
        subst e; subst h'
        have hb' := fixB_ok (π' := π.ren σ N) (b := .row c l t) hp hb
        refine ⟨⟨hb'.2.1, fun i x hi j a ha => hb'.elem i x hi j a ha⟩, fun h => rfl, fun h => ?_⟩
        obtain ⟨hl, _⟩ := h
        obtain ⟨h0, h1, h2, h3, cs, h4, h5⟩ := hb
        rcases h5.2 with ⟨_, hn⟩ | ⟨g, cap, cur, e, _⟩
        · exact absurd (List.eq_nil_of_length_eq_zero hn) hl
        · simp only [Place.sv, Value.slice.injEq] at e
          show p.sa ≠ none
          rw [e.1]; simp
      · exact h.elim
  | ro c l =>
    cases b' <;> simp only [leB1] at h <;> try exact h.elim
    split at h
    · rename_i e _
      obtain ⟨hp, h'⟩ := isB_ok h
      subst e; subst h'
      exact ⟨fixB_ok (b := .ro _ _) hp hb, fun h => h, fun h => h⟩
    · exact h.elim
  | map m l =>
    cases b' <;> simp only [leB1] at h <;> try exact h.elim
    split at h
    · rename_i e _
      obtain ⟨hp, h'⟩ := isB_ok h
      subst e; subst h'
      exact ⟨fixB_ok (b := .map _ _) hp hb, fun h => h, fun h => h⟩
    · exact h.elim
  | mrow o vs =>
    cases b' <;> simp only [leB1] at h <;> try exact h.elim
    rename_i o' vs'
    obtain ⟨ho, h'⟩ := isB_ok h
    obtain ⟨es, ck, ks, h1, h2, h3, h4, h5, h6⟩ := hb
    have hlen := leL_length h'
    have hget : ∀ k, k < vs.length → leV H σ N (vs.getD k .junk) (vs'.getD k .junk) := fun k hk => leL_get h' hk
    refine ⟨⟨es, ck, ks, h1, h2, fun k hk => by rw [← hlen]; exact h3 k hk, h4, ?_, fun k hk hn => leV_ok hc (hget k (by omega)) (h6 k (by omega) hn)⟩, fun h => ?_, fun h => h⟩
    · refine RepL.of_get (by have := h5.length; simpa using this) fun j x hx => ?_
      rw [List.getElem?_map] at hx
      cases hj : ks[j]? with
      | none => rw [hj] at hx; cases hx
      | some k =>
        rw [hj] at hx; simp only [Option.map_some, Option.some.injEq] at hx; subst hx
        obtain ⟨y, hy, hr⟩ := h5.get (j := j) (x := vs.getD k .junk) (by rw [List.getElem?_map, hj]; rfl)
        exact ⟨y, hy, leV_ok hc (hget k (h3 k (List.mem_of_getElem? hj))) hr⟩
    · cases o <;> cases o' <;> simp_all [AB1.own]

def leBk (H : Heap U) (σ : Nat → Nat) (N : Nat) : Option (AB U) → AB U → Prop
  | _, .none => True
  | some (.one b), .one b' => leB1 H σ N b b'
  | some (.fam n f), .fam n' f' => n = n' ∧ (∀ k, fixB (f k) = true) ∧ f = f'
  | _, _ => False

def leHs (σ : Nat → Nat) (N : Nat) (H : Heap U) : Nat → Heap U → Prop
  | _, [] => True
  | i, b :: l => leBk H σ N (nth H (σ i)) b ∧ leHs σ N H (i + 1) l

theorem leHs_get {σ : Nat → Nat} {N : Nat} {H : Heap U} : ∀ {i : Nat} {l : Heap U}, leHs σ N H i l → ∀ {j : Nat} {b : AB U}, l[j]? = some b → leBk H σ N (nth H (σ (i + j))) b
  | i, [], _, j, b, h => by simp at h
  | i, x :: l, h, j, b, hj => by
    simp only [leHs] at h
    cases j with
    | zero => simp at hj; subst hj; exact h.1
    | succ j =>
      have := leHs_get h.2 (j := j) (b := b) (by simpa using hj)
      rwa [show i + 1 + j = i + (j + 1) by omega] at this

theorem leBk_at {σ : Nat → Nat} {N : Nat} {H H' : Heap U} {id k : Nat} {b : AB1 U} (h : leHs σ N H 0 H') (hb : H'.at id k = some b) : ∃ b0, H.at (σ id) k = some b0 ∧ ∀ (π : Plc) (w : World) (p : Place), Conc π H w → BlkOk π w p b0 → BlkOk (π.ren σ N) w p b ∧ (b.own = true → b0.own = true) ∧ (b.phys p → b0.phys p) := by
  unfold Heap.at at hb ⊢
  cases hx : H'[id]? with
  | none => simp [hx] at hb
  | some x =>
    have := leHs_get h hx
    rw [Nat.zero_add, nth_eq] at this
    rw [hx] at hb
    cases x with
    | none => cases hb
    | one b' =>
      simp only at hb
      cases hy : H[σ id]? with
      | none => rw [hy] at this; simp [leBk] at this
      | some y =>
        rw [hy] at this
        cases y with
        | none => simp [leBk] at this
        | fam n f => simp [leBk] at this
        | one b0 =>
          simp only [leBk] at this
          split at hb
          · rename_i hk; cases hb
            exact ⟨b0, by simp [hk], fun π w p hc hok => leB1_ok hc this hok⟩
          · cases hb
    | fam n f =>
      simp only at hb
      cases hy : H[σ id]? with
      | none => rw [hy] at this; simp [leBk] at this
      | some y =>
        rw [hy] at this
        cases y with
        | none => simp [leBk] at this
        | one b0 => simp [leBk] at this
        | fam n0 f0 =>
          simp only [leBk] at this
          obtain ⟨rfl, hfix, rfl⟩ := this
          split at hb
          · rename_i hk; cases hb
            exact ⟨_, by simp [hk], fun π w p _ hok => ⟨fixB_ok (hfix k) hok, fun h => h, fun h => h⟩⟩
          · cases hb

/-- The numbers of blocks that are there. -/
def liveL (σ : Nat → Nat) : Nat → Heap U → List Nat
  | _, [] => []
  | i, .none :: l => liveL σ (i + 1) l
  | i, _ :: l => σ i :: liveL σ (i + 1) l
def nodupB : List Nat → Bool
  | [] => true
  | x :: l => !memN x l && nodupB l
theorem liveL_mem {σ : Nat → Nat} : ∀ {i : Nat} {l : Heap U} {j : Nat} {b : AB U}, l[j]? = some b → b ≠ .none → σ (i + j) ∈ liveL σ i l
  | i, [], j, b, h, _ => by simp at h
  | i, x :: l, j, b, h, hb => by
    cases j with
    | zero =>
      simp at h; subst h
      cases x with
      | none => exact absurd rfl hb
      | one b => simp [liveL]
      | fam n f => simp [liveL]
    | succ j =>
      have := liveL_mem (σ := σ) (i := i + 1) (l := l) (j := j) (b := b) (by simpa using h) hb
      rw [show i + 1 + j = i + (j + 1) by omega] at this
      cases x with
      | none => simpa [liveL] using this
      | one b => simp [liveL, this]
      | fam n f => simp [liveL, this]
theorem liveL_inj {σ : Nat → Nat} : ∀ {i : Nat} {l : Heap U}, nodupB (liveL σ i l) = true → ∀ {j j' : Nat} {b b' : AB U}, l[j]? = some b → l[j']? = some b' → b ≠ .none → b' ≠ .none → σ (i + j) = σ (i + j') → j = j'
  | i, [], _, j, j', b, b', h, _, _, _, _ => by simp at h
  | i, x :: l, hn, j, j', b, b', h, h', hb, hb', e => by
    have key : ∀ (j j' : Nat) (b b' : AB U), (x :: l)[j]? = some b → (x :: l)[j']? = some b' → b ≠ .none → b' ≠ .none → σ (i + j) = σ (i + j') → j < j' → False := by
      intro j j' b b' h h' hb hb' e hlt
      cases j with
      | succ j =>
        cases j' with
        | zero => omega
        | succ j' =>
          have hn' : nodupB (liveL σ (i + 1) l) = true := by
            cases x with
            | none => simpa [liveL] using hn
            | one b => simp only [liveL, nodupB, Bool.and_eq_true] at hn; exact hn.2
            | fam n f => simp only [liveL, nodupB, Bool.and_eq_true] at hn; exact hn.2
          have := liveL_inj hn' (j := j) (j' := j') (by simpa using h) (by simpa using h') hb hb' (by rw [show i + 1 + j = i + (j + 1) by omega, show i + 1 + j' = i + (j' + 1) by omega]; exact e)
          omega
      | zero =>
        cases j' with
        | zero => omega
        | succ j' =>
          simp at h; subst h
          have hm := liveL_mem (σ := σ) (i := i + 1) (l := l) (j := j') (b := b') (by simpa using h') hb'
          rw [show i + 1 + j' = i + (j' + 1) by omega, ← e] at hm
          simp only [Nat.add_zero] at hm
          cases x with
          | none => exact hb rfl
          | one b => simp only [liveL, nodupB, Bool.and_eq_true, memN_iff.2 hm] at hn; simp at hn
          | fam n f => simp only [liveL, nodupB, Bool.and_eq_true, memN_iff.2 hm] at hn; simp at hn
    rcases Nat.lt_trichotomy j j' with h1 | h1 | h1
    · exact (key j j' b b' h h' hb hb' e h1).elim
    · exact h1
    · exact (key j' j b' b h' h hb' hb e.symm h1).elim

def leF (H : Heap U) (σ : Nat → Nat) (N : Nat) (fr : Fr) : Fr → Prop
  | [] => True
  | (t, x) :: l => leV H σ N (fr.get t) x ∧ leF H σ N fr l
theorem leF_get {H : Heap U} {w : World} {σ : Nat → Nat} {N : Nat} {fr : Fr} {π : Plc} (hc : Conc π H w) {t : Nat} {y : Value} (hr : Rep π (fr.get t) y) : ∀ {fr' : Fr}, leF H σ N fr fr' → Rep (π.ren σ N) (fr'.get t) y
  | [], _ => by simp [Fr.get, Rep]
  | (t', x) :: l, h => by
    simp only [leF] at h
    rw [Fr.get_cons]
    split
    · rename_i e; subst e; exact leV_ok hc h.1 hr
    · exact leF_get hc hr h.2

def leD (H : Heap U) (σ : Nat → Nat) (N : Nat) : Df → Prop
  | [] => True
  | .call _ xs ys :: l => leL H σ N xs xs ∧ leL H σ N ys ys ∧ leD H σ N l
  | .mark :: l => leD H σ N l
  | .pend _ :: l => leD H σ N l
theorem leD_ok {lo : Nat} {H : Heap U} {w : World} {σ : Nat → Nat} {N : Nat} {π : Plc} (hc : Conc π H w) : ∀ {df : Df} {ds : List Deferred}, leD H σ N df → DfOk lo π w df ds → DfOk lo (π.ren σ N) w df ds
  | [], ds, _, h => h
  | .call f xs ys :: l, ds, h, ⟨cap, args, ds', e, h1, h2, h3⟩ => by
    simp only [leD] at h
    exact ⟨cap, args, ds', e, leL_ok hc h.1 h1, leL_ok hc h.2.1 h2, leD_ok hc h.2.2 h3⟩
  | .mark :: l, ds, h, ⟨D, ds', e, h1, h2, h3, h4⟩ => ⟨D, ds', e, h1, h2, h3, leD_ok hc (df := l) h h4⟩
  | .pend j :: l, ds, h, h1 => leD_ok hc (df := l) h h1

/-! ### which block is which (told, not trusted) -/
def memK (i : Nat) : List (Nat × Nat) → Bool
  | [] => false
  | (a, _) :: l => match Nat.beq a i with
    | true => true
    | false => memK i l
def addK (m id id' : Nat) (l : List (Nat × Nat)) : List (Nat × Nat) :=
  match Nat.blt id' m, memK id' l with
  | false, false => l ++ [(id', id)]
  | _, _ => l
mutual
def mtV (m : Nat) : AV → AV → List (Nat × Nat) → List (Nat × Nat)
  | .ptr id _ _ _, .ptr id' _ _ _, l => addK m id id' l
  | .sl id _ _ _, .sl id' _ _ _, l => match Nat.beq id noId with
    | true => l
    | false => addK m id id' l
  | .gs id _, .gs id' _, l => addK m id id' l
  | .gs id _, .sl id' _ _ _, l => addK m id id' l
  | .map id _, .map id' _, l => addK m id id' l
  | .fn _ xs ys, .fn _ xs' ys', l => mtL m ys ys' (mtL m xs xs' l)
  | .ifc _ x, .ifc _ x', l => mtV m x x' l
  | .agg xs, .agg xs', l => mtL m xs xs' l
  | .tup xs, .tup xs', l => mtL m xs xs' l
  | _, _, l => l
def mtL (m : Nat) : List AV → List AV → List (Nat × Nat) → List (Nat × Nat)
  | x :: xs, y :: ys, l => mtL m xs ys (mtV m x y l)
  | _, _, l => l
end
def mtF (m : Nat) (fr : Fr) : Fr → List (Nat × Nat) → List (Nat × Nat)
  | [], l => l
  | (t, x) :: r, l => mtF m fr r (mtV m (fr.get t) x l)
def inB : AB1 U → Option (List AV)
  | .cells vs _ => some vs
  | .rc vs _ => some vs
  | .mrow _ vs => some vs
  | _ => none
def mtH (m : Nat) (H H' : Heap U) : Nat → List (Nat × Nat) → List (Nat × Nat) → List (Nat × Nat)
  | 0, _, l => l
  | _ + 1, [], l => l
  | n + 1, (id', id) :: q, l =>
    let l' := match nth H id, nth H' id' with
      | some (.one b), some (.one b') => match inB b, inB b' with
        | some vs, some vs' => mtL m vs vs' l
        | _, _ => l
      | _, _ => l
    mtH m H H' n (q ++ l'.drop l.length) l'
def mtB (m : Nat) (H H' : Heap U) : Nat → Nat → List (Nat × Nat) → List (Nat × Nat)
  | 0, _, l => l
  | n + 1, id, l => mtB m H H' n (id + 1) (match nth H id, nth H' id with
      | some (.one b), some (.one b') => match inB b, inB b' with
        | some vs, some vs' => mtL m vs vs' l
        | _, _ => l
      | _, _ => l)

/-- One state seen as another one. -/
def weakA (m : Nat) (fr : Fr) (df : Df) (H : Heap U) (fr' : Fr) (H' : Heap U) : Prop :=
  let l0 := mtB m H H' m 0 (mtF m fr fr' [])
  let l := mtH m H H' 40 l0 l0
  let σ := sg m l
  let N := H'.length
  isB (Nat.ble m N && nodupB (liveL σ 0 H')) (leF H σ N fr fr' ∧ leD H σ N df ∧ leHs σ N H 0 H')

theorem at_lt {H' : Heap U} {id k : Nat} {b : AB1 U} (hb : H'.at id k = some b) : id < H'.length ∧ ∃ x, H'[id]? = some x ∧ x ≠ .none := by
  unfold Heap.at at hb
  split at hb
  · rename_i h; exact ⟨(List.getElem?_eq_some_iff.1 h).1, _, h, by simp⟩
  · rename_i h; exact ⟨(List.getElem?_eq_some_iff.1 h).1, _, h, by simp⟩
  · cases hb

theorem Conc.ren {H H' : Heap U} {σ : Nat → Nat} {π : Plc} {w : World} (hc : Conc π H w) (hH : leHs σ H'.length H 0 H') (hn : nodupB (liveL σ 0 H') = true) : Conc (π.ren σ H'.length) H' w := by
  have hpl : ∀ id k, id < H'.length → π.ren σ H'.length id k = π (σ id) k := fun id k h => by unfold Plc.ren; rw [if_pos h]
  refine ⟨fun id k b hb => ?_, fun id k b id' k' b' p p' hb hb' hne ho hp hp' h1 h2 => ?_⟩
  · obtain ⟨b0, hb0, hh⟩ := leBk_at hH hb
    obtain ⟨p, hp, hok⟩ := hc.ok _ _ _ hb0
    exact ⟨p, by rw [hpl id k (at_lt hb).1]; exact hp, (hh π w p hc hok).1⟩
  · obtain ⟨b0, hb0, hh⟩ := leBk_at hH hb
    obtain ⟨b0', hb0', hh'⟩ := leBk_at hH hb'
    rw [hpl id k (at_lt hb).1] at hp
    rw [hpl id' k' (at_lt hb').1] at hp'
    obtain ⟨q, hq, hok⟩ := hc.ok _ _ _ hb0
    rw [hp] at hq; cases hq
    obtain ⟨q', hq', hok'⟩ := hc.ok _ _ _ hb0'
    rw [hp'] at hq'; cases hq'
    obtain ⟨_, e1, e2⟩ := hh π w p hc hok
    obtain ⟨_, e1', e2'⟩ := hh' π w p' hc hok'
    refine hc.sep _ _ b0 _ _ b0' p p' hb0 hb0' ?_ (e1 ho) hp hp' (e2 h1) (e2' h2)
    rcases hne with hne | hne
    · left
      intro e
      obtain ⟨_, x, hx, hx0⟩ := at_lt hb
      obtain ⟨_, x', hx', hx0'⟩ := at_lt hb'
      exact hne (liveL_inj hn hx hx' hx0 hx0' (by rw [Nat.zero_add, Nat.zero_add]; exact e))
    · exact .inr hne

theorem weak_ok {B : Base U} {fr fr' : Fr} {df : Df} {H H' : Heap U} {π : Plc} {w : World} {a : Act} (h : weakA B.H.length fr df H fr' H') (hS : St B fr df H π w a) : ∃ π', St B fr' df H' π' w a := by
  unfold weakA at h
  simp only at h
  generalize mtH B.H.length H H' 40 _ _ = l at h
  obtain ⟨hbb, hF, hD, hH⟩ := isB_ok h
  rw [Bool.and_eq_true] at hbb
  have hN : B.H.length ≤ H'.length := by simpa using hbb.1
  have hlt : ∀ id k b, H'.at id k = some b → id < H'.length ∧ ∃ x, H'[id]? = some x ∧ x ≠ .none := by
    intro id k b hb
    unfold Heap.at at hb
    split at hb
    · rename_i h; exact ⟨(List.getElem?_eq_some_iff.1 h).1, _, h, by simp⟩
    · rename_i h; exact ⟨(List.getElem?_eq_some_iff.1 h).1, _, h, by simp⟩
    · cases hb
  have hpl : ∀ id k, id < H'.length → π.ren (sg B.H.length l) H'.length id k = π (sg B.H.length l id) k := fun id k h => by unfold Plc.ren; rw [if_pos h]
  refine ⟨π.ren (sg B.H.length l) H'.length, fun t => leF_get hS.conc (hS.fr t) hF, ⟨fun id k b hb => ?_, fun id k b id' k' b' p p' hb hb' hne ho hp hp' h1 h2 => ?_⟩, fun id k hid => ?_, fun id k hid => ?_, hS.keeps, fun n hn => ?_, hS.nt, hS.j, leD_ok hS.conc hD hS.df, hN⟩
  · obtain ⟨b0, hb0, hh⟩ := leBk_at hH hb
    obtain ⟨p, hp, hok⟩ := hS.conc.ok _ _ _ hb0
    exact ⟨p, by rw [hpl id k (hlt id k b hb).1]; exact hp, (hh π w p hS.conc hok).1⟩
  · obtain ⟨b0, hb0, hh⟩ := leBk_at hH hb
    obtain ⟨b0', hb0', hh'⟩ := leBk_at hH hb'
    rw [hpl id k (hlt id k b hb).1] at hp
    rw [hpl id' k' (hlt id' k' b' hb').1] at hp'
    obtain ⟨q, hq, hok⟩ := hS.conc.ok _ _ _ hb0
    rw [hp] at hq; cases hq
    obtain ⟨q', hq', hok'⟩ := hS.conc.ok _ _ _ hb0'
    rw [hp'] at hq'; cases hq'
    obtain ⟨_, e1, e2⟩ := hh π w p hS.conc hok
    obtain ⟨_, e1', e2'⟩ := hh' π w p' hS.conc hok'
    refine hS.conc.sep _ _ b0 _ _ b0' p p' hb0 hb0' ?_ (e1 ho) hp hp' (e2 h1) (e2' h2)
    rcases hne with hne | hne
    · left
      intro e
      obtain ⟨_, x, hx, hx0⟩ := hlt id k b hb
      obtain ⟨_, x', hx', hx0'⟩ := hlt id' k' b' hb'
      exact hne (liveL_inj hbb.2 hx hx' hx0 hx0' (by rw [Nat.zero_add, Nat.zero_add]; exact e))
    · exact .inr hne
  · unfold Plc.ren; rw [if_neg (by omega)]
  · rw [hpl id k (by omega)]
    have : sg B.H.length l id = id := by
      unfold sg
      have : Nat.blt id B.H.length = true := by simpa using hid
      rw [this]
    rw [this]; exact hS.only id k hid
  · obtain ⟨id, k, b, p, hb, ho, hp, hph, e⟩ := hn
    obtain ⟨b0, hb0, hh⟩ := leBk_at hH hb
    rw [hpl id k (hlt id k b hb).1] at hp
    obtain ⟨q, hq, hok⟩ := hS.conc.ok _ _ _ hb0
    rw [hp] at hq; cases hq
    obtain ⟨_, e1, e2⟩ := hh π w p hS.conc hok
    exact hS.own n ⟨_, k, b0, p, hb0, e1 ho, hp, e2 hph, e⟩
end AE
