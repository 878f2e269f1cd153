/- An own symbolic executor: one operation of whatever kind; memory behind it. No condition. -/
import Derived.Test.YtfhpdgmhdppggaaAe16
namespace AE
open Go

variable {U : Uni}

def opCall (P : Program) (T : Tab U) (c : Call) (ρ : Operand → AV) (H : Heap U) (base : Nat) (K : OOut U → Prop) : Prop :=
  match c.callee with
  | .value f => opCallV T (ρ f) (c.args.toList.map ρ) H base K
  | .invoke x name => opInvoke P T (ρ x) name (c.args.toList.map ρ) H base K
  | .builtin b => match b, c.args.toList, c.argTypes.toList with
    | .len, [x], [t] => opLen P t (ρ x) H fun x => K (.val ⟨x, [], [], []⟩)
    | .append, [x, y], [t, t'] => eqB t t' (opAppend P t (ρ x) (ρ y) H base K)
    | .max, xs, _ => opMM true (xs.map ρ) fun x => K (.val ⟨x, [], [], []⟩)
    | .min, xs, _ => opMM false (xs.map ρ) fun x => K (.val ⟨x, [], [], []⟩)
    | _, _, _ => False

theorem call_eta (c : Call) (b : Builtin) (xs : List Operand) (ts : List TypeId) (h1 : c.callee = .builtin b) (h2 : c.args.toList = xs) (h3 : c.argTypes.toList = ts) : c = { callee := .builtin b, args := xs.toArray, argTypes := ts.toArray } := by
  cases c; simp at h1 h2 h3; subst h1; subst h2; subst h3; simp

theorem opCall_ok {P : Program} {o : Oper} {ρ : Operand → AV} {H : Heap U} {base : Nat} {T : Tab U} (hT : T.Sound P) {c : Call} {K : OOut U → Prop} (ho : o.op = .call c)
    (h : opCall P T c ρ H base K) : ∃ r, K r ∧ OpOk P o ρ H base r := by
  unfold opCall at h
  split at h
  · rename_i f hf
    exact opCallV_ok hT (by rw [ho, ← hf]) h
  · rename_i x name hf
    exact opInvoke_ok hT (by rw [ho, ← hf]) h
  · rename_i b hf
    split at h
    · rename_i x t hx ht
      have hc := call_eta c _ _ _ hf hx ht
      exact opLen_ok (by rw [ho, hc]) h
    · rename_i x y t t' hx ht
      obtain ⟨htt, h2⟩ := eqB_ok h
      subst htt
      have hc := call_eta c _ _ _ hf hx ht
      exact opAppend_ok (by rw [ho, hc]) h2
    · have hc : c = { callee := .builtin (if true then .max else .min), args := c.args, argTypes := c.argTypes } := by cases c; simp at hf; subst hf; rfl
      exact opMM_ok (mx := true) (xs := c.args) (ts := c.argTypes) (by rw [ho]; exact congrArg Op.call hc) h
    · have hc : c = { callee := .builtin (if false then .max else .min), args := c.args, argTypes := c.argTypes } := by cases c; simp at hf; subst hf; rfl
      exact opMM_ok (mx := false) (xs := c.args) (ts := c.argTypes) (by rw [ho]; exact congrArg Op.call hc) h
    · exact h.elim

/-! ### working values out ahead (so that no work is done twice) -/
mutual
def forceV : AV → (AV → Prop) → Prop
  | .junk, K => K .junk
  | .tt, K => K .tt
  | .ff, K => K .ff
  | .v (.bool b), K => K (.v (.bool b))
  | .v (.int k n), K => K (.v (.int k n))
  | .v x, K => K (.v x)
  | .ptr id k i fo, K => K (.ptr id k i fo)
  | .sl id k off len, K => K (.sl id k off len)
  | .gs id k, K => K (.gs id k)
  | .map id k, K => K (.map id k)
  | .fn f xs ys, K => forceL xs fun xs => forceL ys fun ys => K (.fn f xs ys)
  | .ifc t x, K => forceV x fun x => K (.ifc t x)
  | .agg xs, K => forceL xs fun xs => K (.agg xs)
  | .tup xs, K => forceL xs fun xs => K (.tup xs)
  | .alt c a b, K => forceV a fun a => forceV b fun b => K (.alt c a b)
def forceL : List AV → (List AV → Prop) → Prop
  | [], K => K []
  | x :: xs, K => forceV x fun x => forceL xs fun xs => K (x :: xs)
end
mutual
theorem forceV_ok : ∀ {x : AV} {K : AV → Prop}, forceV x K → K x
  | .junk, K, h => by simpa [forceV] using h
  | .tt, K, h => by simpa [forceV] using h
  | .ff, K, h => by simpa [forceV] using h
  | .v x, K, h => by cases x <;> simpa [forceV] using h
  | .ptr id k i fo, K, h => by simpa [forceV] using h
  | .sl id k off len, K, h => by simpa [forceV] using h
  | .gs id k, K, h => by simpa [forceV] using h
  | .map id k, K, h => by simpa [forceV] using h
  | .fn f xs ys, K, h => by rw [forceV] at h; exact forceL_ok (K := fun ys => K (.fn f xs ys)) (forceL_ok (K := fun xs => forceL ys fun ys => K (.fn f xs ys)) h)
  | .ifc t x, K, h => by rw [forceV] at h; exact forceV_ok (K := fun x => K (.ifc t x)) h
  | .agg xs, K, h => by rw [forceV] at h; exact forceL_ok (K := fun x => K (.agg x)) h
  | .tup xs, K, h => by rw [forceV] at h; exact forceL_ok (K := fun x => K (.tup x)) h
  | .alt c a b, K, h => by rw [forceV] at h; exact forceV_ok (K := fun b => K (.alt c a b)) (forceV_ok (K := fun a => forceV b fun b => K (.alt c a b)) h)
theorem forceL_ok : ∀ {xs : List AV} {K : List AV → Prop}, forceL xs K → K xs
  | [], K, h => by simpa [forceL] using h
  | x :: xs, K, h => by rw [forceL] at h; exact forceL_ok (K := fun xs => K (x :: xs)) (forceV_ok (K := fun x => forceL xs fun xs => K (x :: xs)) h)
end
def forceB : AB1 U → (AB1 U → Prop) → Prop
  | .cells vs t, K => forceL vs fun vs => K (.cells vs t)
  | .rc vs t, K => forceL vs fun vs => K (.rc vs t)
  | .row c l t, K => K (.row c l t)
  | .ro c l, K => K (.ro c l)
  | .map m l, K => K (.map m l)
  | .mrow o vs, K => forceL vs fun vs => K (.mrow o vs)
theorem forceB_ok {b : AB1 U} {K : AB1 U → Prop} (h : forceB b K) : K b := by
  cases b with
  | cells vs t => exact forceL_ok (K := fun vs => K (.cells vs t)) h
  | rc vs t => exact forceL_ok (K := fun vs => K (.rc vs t)) h
  | row c l t => exact h
  | ro c l => exact h
  | map m l => exact h
  | mrow o vs => exact forceL_ok (K := fun vs => K (.mrow o vs)) h
def forceN (n : Nat) (K : Nat → Prop) : Prop :=
  match n + 1 with
  | 0 => False
  | m + 1 => K m
theorem forceN_ok {n : Nat} {K : Nat → Prop} (h : forceN n K) : K n := h
def forceU : List (Nat × Nat × AB1 U) → (List (Nat × Nat × AB1 U) → Prop) → Prop
  | [], K => K []
  | (id, k, b) :: l, K => forceN id fun id => forceB b fun b => forceU l fun l => K ((id, k, b) :: l)
theorem forceU_ok : ∀ {l : List (Nat × Nat × AB1 U)} {K : List (Nat × Nat × AB1 U) → Prop}, forceU l K → K l
  | [], K, h => h
  | (id, k, b) :: l, K, h => forceU_ok (K := fun l => K ((id, k, b) :: l)) (forceB_ok (K := fun b => forceU l fun l => K ((id, k, b) :: l)) h)
def forceKl : List (Nat × Nat) → (List (Nat × Nat) → Prop) → Prop
  | [], K => K []
  | (id, k) :: l, K => forceN id fun id => forceKl l fun l => K ((id, k) :: l)
theorem forceKl_ok : ∀ {l : List (Nat × Nat)} {K : List (Nat × Nat) → Prop}, forceKl l K → K l
  | [], K, h => h
  | (id, k) :: l, K, h => forceKl_ok (K := fun l => K ((id, k) :: l)) h
def forceBs : List (AB1 U) → (List (AB1 U) → Prop) → Prop
  | [], K => K []
  | b :: l, K => forceB b fun b => forceBs l fun l => K (b :: l)
theorem forceBs_ok : ∀ {l : List (AB1 U)} {K : List (AB1 U) → Prop}, forceBs l K → K l
  | [], K, h => h
  | b :: l, K, h => forceBs_ok (K := fun l => K (b :: l)) (forceB_ok (K := fun b => forceBs l fun l => K (b :: l)) h)
def forceK (K : OOut U → Prop) : OOut U → Prop
  | .val ⟨v, u, k, n⟩ => forceV v fun v => forceU u fun u => forceKl k fun k => forceBs n fun n => K (.val ⟨v, u, k, n⟩)
  | .panic x => forceV x fun x => K (.panic x)
theorem forceK_ok {K : OOut U → Prop} {r : OOut U} (h : forceK K r) : K r := by
  cases r with
  | val r =>
    obtain ⟨v, u, k, n⟩ := r
    have h1 := forceV_ok (K := fun v => forceU u fun u => forceKl k fun k => forceBs n fun n => K (.val ⟨v, u, k, n⟩)) h
    have h2 := forceU_ok (K := fun u => forceKl k fun k => forceBs n fun n => K (.val ⟨v, u, k, n⟩)) h1
    have h3 := forceKl_ok (K := fun k => forceBs n fun n => K (.val ⟨v, u, k, n⟩)) h2
    exact forceBs_ok (K := fun n => K (.val ⟨v, u, k, n⟩)) h3
  | panic x => exact forceV_ok (K := fun x => K (.panic x)) h
def forceP {α : Type} : List (α × AV) → (List (α × AV) → Prop) → Prop
  | [], K => K []
  | (i, x) :: l, K => forceV x fun x => forceP l fun l => K ((i, x) :: l)
theorem forceP_ok {α : Type} : ∀ {l : List (α × AV)} {K : List (α × AV) → Prop}, forceP l K → K l
  | [], K, h => h
  | (i, x) :: l, K, h => forceP_ok (K := fun l => K ((i, x) :: l)) (forceV_ok (K := fun x => forceP l fun l => K ((i, x) :: l)) h)
def forceH : List (AB U) → (List (AB U) → Prop) → Prop
  | [], K => K []
  | .none :: H, K => forceH H fun H => K (.none :: H)
  | .one b :: H, K => forceB b fun b => forceH H fun H => K (.one b :: H)
  | .fam n f :: H, K => forceH H fun H => K (.fam n f :: H)
theorem forceH_ok : ∀ {H : List (AB U)} {K : List (AB U) → Prop}, forceH H K → K H
  | [], K, h => h
  | .none :: H, K, h => forceH_ok (K := fun H => K (.none :: H)) h
  | .one b :: H, K, h => forceH_ok (K := fun H => K (.one b :: H)) (forceB_ok (K := fun b => forceH H fun H => K (.one b :: H)) h)
  | .fam n f :: H, K, h => forceH_ok (K := fun H => K (.fam n f :: H)) h

/-- One operation. -/
def opA0 (P : Program) (T : Tab U) (o : Oper) (ρ : Operand → AV) (H : Heap U) (base : Nat) (K : OOut U → Prop) : Prop :=
  match o.op with
  | .move x => K (.val ⟨ρ x, [], [], []⟩)
  | .assign x => K (.val ⟨ρ x, [], [], []⟩)
  | .pick c a b => opPick ρ c a b K
  | .alloc t => opAlloc P t base K
  | .box t x => opBox t (ρ x) base K
  | .build t ps => opBuild P t (ps.toList.map fun (i, x) => (i, ρ x)) fun x => K (.val ⟨x, [], [], []⟩)
  | .buildSlice t n ps => forceP (ps.toList.map fun (i, x) => (i, (ρ x).nrm)) fun ps => opBuildSlice P t n ps base K
  | .load t x => opLoad P t (ρ x) H K
  | .store t x y => opStore P t (ρ x) (ρ y) H K
  | .nilCheck x => opNil (ρ x) fun x => K (.val ⟨x, [], [], []⟩)
  | .binOp op t x y _ => opBin P op t (isConstO x || isConstO y) (ρ x) (ρ y) fun x => K (.val ⟨x, [], [], []⟩)
  | .unOp op _ x => opUn op (ρ x) fun x => K (.val ⟨x, [], [], []⟩)
  | .convert s d x => opConv P s d (ρ x) fun x => K (.val ⟨x, [], [], []⟩)
  | .makeInterface t x => opIface P t (ρ x) fun x => K (.val ⟨x, [], [], []⟩)
  | .makeFunc f xs ys => K (.val ⟨.fn f (xs.toList.map ρ) (ys.toList.map ρ), [], [], []⟩)
  | .makeMap t none => opMakeMap P t base K
  | .makeSlice t x y => opMakeSlice P t (ρ x) (ρ y) base K
  | .slice t x lo hi none => opSlice P t (ρ x) (lo.map ρ) (hi.map ρ) H fun x => K (.val ⟨x, [], [], []⟩)
  | .fieldAddr s x f => opFieldAddr P s (ρ x) f K
  | .field s x f => opField P s (ρ x) f K
  | .indexAddr t x i => opIndexAddr P t (ρ x) (ρ i) H fun x => K (.val ⟨x, [], [], []⟩)
  | .lookup t x k ok => opLookup P t (ρ x) (ρ k) ok H fun x => K (.val ⟨x, [], [], []⟩)
  | .mapUpdate t x k y => opMapUpdate P t (ρ x) (ρ k) (ρ y) H K
  | .insert t x k y => opMapUpdate P t (ρ x) (ρ k) (ρ y) H K
  | .typeAssert x _ t ok => opAssert P t ok (ρ x) fun x => K (.val ⟨x, [], [], []⟩)
  | .extract x i => opExtract (ρ x) i fun x => K (.val ⟨x, [], [], []⟩)
  | .panic x => opPanic (ρ x) K
  | .call c => opCall P T c ρ H base K
  | _ => False

theorem opA0_ok {P : Program} {T : Tab U} (hT : T.Sound P) {o : Oper} {ρ : Operand → AV} {H : Heap U} {base : Nat} {K : OOut U → Prop} (h : opA0 P T o ρ H base K) : ∃ r, K r ∧ OpOk P o ρ H base r := by
  unfold opA0 at h
  split at h
  · rename_i ho; exact ⟨_, h, opMove_ok (.inl ho)⟩
  · rename_i ho; exact ⟨_, h, opMove_ok (.inr ho)⟩
  · rename_i ho; exact opPick_ok ho h
  · rename_i ho; exact opAlloc_ok ho h
  · rename_i ho; exact opBox_ok ho h
  · rename_i ho; exact opBuild_ok ho h
  · rename_i ho; exact opBuildSlice_ok ho (forceP_ok (K := fun ps => opBuildSlice P _ _ ps base K) h)
  · rename_i ho; exact opLoad_ok ho h
  · rename_i ho; exact opStore_ok ho h
  · rename_i ho; exact opNil_ok ho h
  · rename_i ho; exact opBin_ok ho h
  · rename_i ho; exact opUn_ok ho h
  · rename_i ho; exact opConv_ok ho h
  · rename_i ho; exact opIface_ok ho h
  · rename_i ho; exact opFunc_ok ho h
  · rename_i ho; exact opMakeMap_ok ho h
  · rename_i ho; exact opMakeSlice_ok ho h
  · rename_i ho; exact opSlice_ok ho h
  · rename_i ho; exact opFieldAddr_ok ho h
  · rename_i ho; exact opField_ok ho h
  · rename_i ho; exact opIndexAddr_ok ho h
  · rename_i ho; exact opLookup_ok ho h
  · rename_i ho; exact opMapUpdate_ok (.inl ho) h
  · rename_i ho; exact opMapUpdate_ok (.inr ho) h
  · rename_i ho; exact opAssert_ok ho h
  · rename_i ho; exact opExtract_ok ho h
  · rename_i ho; exact opPanic_ok ho h
  · rename_i ho; exact opCall_ok hT ho h
  · exact h.elim

def opA (P : Program) (T : Tab U) (o : Oper) (ρ : Operand → AV) (H : Heap U) (base : Nat) (K : OOut U → Prop) : Prop :=
  forceN base fun base => opA0 P T o ρ H base (forceK K)
theorem opA_ok {P : Program} {T : Tab U} (hT : T.Sound P) {o : Oper} {ρ : Operand → AV} {H : Heap U} {base : Nat} {K : OOut U → Prop} (h : opA P T o ρ H base K) : ∃ r, K r ∧ OpOk P o ρ H base r := by
  obtain ⟨r, hr, ho⟩ := opA0_ok hT (forceN_ok h)
  exact ⟨r, forceK_ok hr, ho⟩


/-! ### memory behind an operation -/
def setNth {α : Type} (f : α → α) : List α → Nat → List α
  | [], _ => []
  | x :: l, 0 => f x :: l
  | x :: l, n + 1 => x :: setNth f l n

theorem setNth_get {α : Type} (f : α → α) : ∀ (l : List α) (n i : Nat), (setNth f l n)[i]? = if i = n then l[i]?.map f else l[i]?
  | [], n, i => by simp [setNth]
  | x :: l, 0, 0 => by simp [setNth]
  | x :: l, 0, i + 1 => by simp [setNth]
  | x :: l, n + 1, 0 => by simp [setNth]
  | x :: l, n + 1, i + 1 => by simp [setNth, setNth_get f l n i]
theorem setNth_length {α : Type} (f : α → α) : ∀ (l : List α) (n : Nat), (setNth f l n).length = l.length
  | [], n => rfl
  | x :: l, 0 => rfl
  | x :: l, n + 1 => by simp [setNth, setNth_length f l n]

def AB.set (k : Nat) (b : AB1 U) : AB U → AB U
  | .one _ => match k with
    | 0 => .one b
    | _ + 1 => .none
  | .fam n f => .fam n fun j => if j = k then b else f j
  | .none => .none
def Heap.set (H : Heap U) (id k : Nat) (b : AB1 U) : Heap U := setNth (AB.set k b) H id
def Heap.kill (H : Heap U) (id : Nat) : Heap U := setNth (fun _ => .none) H id
def Heap.upds (H : Heap U) : List (Nat × Nat × AB1 U) → Heap U
  | [] => H
  | (id, k, b) :: l => (H.set id k b).upds l
def Heap.kills (H : Heap U) : List (Nat × Nat) → Heap U
  | [] => H
  | (id, _) :: l => (H.kill id).kills l
def Heap.app (H : Heap U) (r : ORes U) : Heap U := ((H.kills r.kill).upds r.upd) ++ r.new.map .one

theorem Heap.set_length (H : Heap U) (id k : Nat) (b : AB1 U) : (H.set id k b).length = H.length := setNth_length _ _ _
theorem Heap.kill_length (H : Heap U) (id : Nat) : (H.kill id).length = H.length := setNth_length _ _ _
theorem Heap.upds_length : ∀ (l : List (Nat × Nat × AB1 U)) (H : Heap U), (H.upds l).length = H.length
  | [], H => rfl
  | (id, k, b) :: l, H => by rw [Heap.upds, Heap.upds_length l, Heap.set_length]
theorem Heap.kills_length : ∀ (l : List (Nat × Nat)) (H : Heap U), (H.kills l).length = H.length
  | [], H => rfl
  | (id, k) :: l, H => by rw [Heap.kills, Heap.kills_length l, Heap.kill_length]
theorem Heap.app_length (H : Heap U) (r : ORes U) : (H.app r).length = H.length + r.new.length := by
  unfold Heap.app; rw [List.length_append, Heap.upds_length, Heap.kills_length, List.length_map]

theorem Heap.set_at {H : Heap U} {id k : Nat} {b : AB1 U} {i j : Nat} {c : AB1 U} (h : (H.set id k b).at i j = some c) : (i = id ∧ j = k ∧ c = b) ∨ (¬ (i = id ∧ j = k) ∧ H.at i j = some c) := by
  unfold Heap.at Heap.set at h
  rw [setNth_get] at h
  unfold Heap.at
  by_cases hi : i = id
  · subst hi
    rw [if_pos rfl] at h
    cases hh : H[i]? with
    | none => simp [hh] at h
    | some x =>
      simp only [hh, Option.map_some] at h ⊢
      cases x with
      | none => simp [AB.set] at h
      | one b0 =>
        cases k with
        | zero =>
          simp only [AB.set] at h
          by_cases hj : j = 0
          · simp [hj] at h; exact .inl ⟨by trivial, hj, h.symm⟩
          · simp [hj] at h
        | succ k => simp [AB.set] at h
      | fam n f =>
        simp only [AB.set] at h
        by_cases hj : j < n
        · simp only [hj, if_true, Option.some.injEq] at h
          by_cases hjk : j = k
          · simp [hjk] at h; exact .inl ⟨by trivial, hjk, h.symm⟩
          · simp [hjk] at h; exact .inr ⟨by simp [hjk], by simp [hj, h]⟩
        · simp [hj] at h
  · rw [if_neg hi] at h
    exact .inr ⟨by simp [hi], h⟩

theorem Heap.kill_at {H : Heap U} {id i j : Nat} {c : AB1 U} (h : (H.kill id).at i j = some c) : i ≠ id ∧ H.at i j = some c := by
  unfold Heap.at Heap.kill at h
  rw [setNth_get] at h
  unfold Heap.at
  by_cases hi : i = id
  · subst hi
    rw [if_pos rfl] at h
    cases hh : H[i]? <;> simp [hh] at h
  · rw [if_neg hi] at h; exact ⟨hi, h⟩

theorem Heap.upds_at : ∀ (l : List (Nat × Nat × AB1 U)) {H : Heap U} {i j : Nat} {c : AB1 U}, (H.upds l).at i j = some c → (i, j, c) ∈ l ∨ ((∀ b, (i, j, b) ∉ l) ∧ H.at i j = some c)
  | [], H, i, j, c, h => .inr ⟨by simp, h⟩
  | (id, k, b) :: l, H, i, j, c, h => by
    rcases Heap.upds_at l (H := H.set id k b) h with h | ⟨h1, h2⟩
    · exact .inl (by simp [h])
    · rcases Heap.set_at h2 with ⟨rfl, rfl, rfl⟩ | ⟨h3, h4⟩
      · exact .inl (by simp)
      · refine .inr ⟨fun b' hb' => ?_, h4⟩
        simp only [List.mem_cons, Prod.mk.injEq] at hb'
        rcases hb' with ⟨rfl, rfl, _⟩ | hb'
        · exact h3 ⟨rfl, rfl⟩
        · exact h1 b' hb'

theorem Heap.kills_at : ∀ (l : List (Nat × Nat)) {H : Heap U} {i j : Nat} {c : AB1 U}, (H.kills l).at i j = some c → (∀ k, (i, k) ∉ l) ∧ H.at i j = some c
  | [], H, i, j, c, h => ⟨by simp, h⟩
  | (id, k) :: l, H, i, j, c, h => by
    obtain ⟨h1, h2⟩ := Heap.kills_at l (H := H.kill id) h
    obtain ⟨h3, h4⟩ := Heap.kill_at h2
    refine ⟨fun k' hk' => ?_, h4⟩
    simp only [List.mem_cons, Prod.mk.injEq] at hk'
    rcases hk' with ⟨e, _⟩ | hk'
    · exact h3 e
    · exact h1 k' hk'

theorem Heap.app_at {H : Heap U} {r : ORes U} {i j : Nat} {c : AB1 U} (h : (H.app r).at i j = some c) :
    (i < H.length ∧ (∀ k, (i, k) ∉ r.kill) ∧ ((i, j, c) ∈ r.upd ∨ ((∀ b, (i, j, b) ∉ r.upd) ∧ H.at i j = some c))) ∨ (H.length ≤ i ∧ j = 0 ∧ r.new[i - H.length]? = some c) := by
  have hlen : ((H.kills r.kill).upds r.upd).length = H.length := by rw [Heap.upds_length, Heap.kills_length]
  by_cases hi : i < H.length
  · left
    have h' : ((H.kills r.kill).upds r.upd).at i j = some c := by
      unfold Heap.at Heap.app at h
      rw [List.getElem?_append_left (by omega)] at h
      exact h
    rcases Heap.upds_at _ h' with hu | ⟨hu, hk⟩
    · refine ⟨hi, ?_, .inl hu⟩
      -- an entry that is there behind the kills
      have key : ∀ (l : List (Nat × Nat × AB1 U)) (H' : Heap U), (H'.upds l).at i j = some c → H'[i]? ≠ some .none := by
        intro l
        induction l with
        | nil => intro H' h e; simp [Heap.upds, Heap.at, e] at h
        | cons x l ih =>
          obtain ⟨id, k, b⟩ := x
          intro H' h e
          refine ih (H'.set id k b) h ?_
          unfold Heap.set; rw [setNth_get]
          by_cases hi : i = id
          · rw [if_pos hi, e]; rfl
          · rw [if_neg hi, e]
      have hne := key _ _ h'
      intro k hk
      have key2 : ∀ (l : List (Nat × Nat)) (H' : Heap U), (i, k) ∈ l → i < H'.length → (H'.kills l)[i]? = some .none := by
        intro l
        induction l with
        | nil => intro H' hm; cases hm
        | cons x l ih =>
          obtain ⟨id, k'⟩ := x
          intro H' hm hl
          have stay : ∀ (l : List (Nat × Nat)) (H' : Heap U), H'[i]? = some .none → (H'.kills l)[i]? = some .none := by
            intro l
            induction l with
            | nil => intro H' h; exact h
            | cons x l ih => intro H' h; refine ih (H'.kill x.1) ?_; unfold Heap.kill; rw [setNth_get]; split <;> simp [h]
          simp only [List.mem_cons, Prod.mk.injEq] at hm
          rcases hm with ⟨e, _⟩ | hm
          · refine stay l (H'.kill id) ?_
            unfold Heap.kill; rw [setNth_get, if_pos e, List.getElem?_eq_getElem hl]; rfl
          · exact ih (H'.kill id) hm (by rw [Heap.kill_length]; exact hl)
      exact hne (key2 _ _ hk hi)
    · obtain ⟨h1, h2⟩ := Heap.kills_at _ hk
      exact ⟨hi, h1, .inr ⟨hu, h2⟩⟩
  · right
    unfold Heap.at Heap.app at h
    rw [List.getElem?_append_right (by omega), hlen, List.getElem?_map] at h
    cases hn : r.new[i - H.length]? with
    | none => simp [hn] at h
    | some b =>
      simp only [hn, Option.map_some] at h
      by_cases hj : j = 0
      · simp [hj] at h; subst h; exact ⟨by omega, hj, rfl⟩
      · simp [hj] at h
end AE
