/- An own symbolic executor: a function by its number. No condition. -/
import Derived.Test.YtfhpdgmhdppggaaAe29
namespace AE
open Go

variable {U : Uni}

theorem bodyOf_eq {fn : Func} (hb : fn.body.isSome = true) : fn.body = some (bodyOf fn) := by
  obtain ⟨c, hc⟩ := Option.isSome_iff_exists.1 hb
  unfold bodyOf; rw [hc]

/-- A function that may recover (tl), and may range over functions (it). -/
theorem fun_ofG {P : Program} {T : Tab U} (hm : P.follows .mixedOrders = true) (hT : T.Sound P) {tl : Nat → Option FuncId} (htl : ∀ k f, tl k = some f → ToldOk P k f) {it : Nat → Option (ItW U)} (hIt : ∀ k i, it k = some i → ItOk P i) {f : FuncId} {fn : Func} (hf : P.funcs[f]? = some fn) (hb : fn.body.isSome = true) {AL : List AV} (hal : Nat.ble AL.length fn.ntmps = true) {HL : Heap U} {R : OOut U}
    {L : Nat → Option (LRule U)} {hs : Nat → List Nat} {sp : Nat → Option (Nat × Nat)} (h : wpA { P := P, T := T, nt := fn.ntmps } { it := it, m := HL.length, L := L, hs := hs, sp := sp } (bodyOf fn) (frameOf 0 AL) [] HL (endG P T tl fn HL R)) : FunOk P f AL HL R :=
  fun_okG (E := { P := P, T := T, nt := fn.ntmps }) hm hT htl hf (bodyOf_eq hb) rfl hal (C := { it := it, m := HL.length, L := L, hs := hs, sp := sp }) hIt rfl rfl (fun _ _ _ hh => hh) (fun _ _ _ _ h => h) h

/-- A function's two ends: it hands back a value where c is so, it panics where c is not. -/
def endE (P : Program) (T : Tab U) (tl : Nat → Option FuncId) (fn : Func) (HL : Heap U) (c : Bool) (R R' : OOut U) (e : Ex) (fr : Fr) (df : Df) (H : Heap U) : Prop :=
  match e with
  | .pan x => c = false ∧ endG P T tl fn HL R' (.pan x) fr df H
  | .nrm => c = true ∧ endG P T tl fn HL R .nrm fr df H
  | .ret => c = true ∧ endG P T tl fn HL R .ret fr df H
  | _ => False
theorem fun_ofE {P : Program} {T : Tab U} (hm : P.follows .mixedOrders = true) (hT : T.Sound P) {tl : Nat → Option FuncId} (htl : ∀ k f, tl k = some f → ToldOk P k f) {it : Nat → Option (ItW U)} (hIt : ∀ k i, it k = some i → ItOk P i) {f : FuncId} {fn : Func} (hf : P.funcs[f]? = some fn) (hb : fn.body.isSome = true) {AL : List AV} (hal : Nat.ble AL.length fn.ntmps = true) {HL : Heap U} {c : Bool} {R R' : OOut U}
    {L : Nat → Option (LRule U)} {hs : Nat → List Nat} {sp : Nat → Option (Nat × Nat)} (h : wpA { P := P, T := T, nt := fn.ntmps } { it := it, m := HL.length, L := L, hs := hs, sp := sp } (bodyOf fn) (frameOf 0 AL) [] HL (endE P T tl fn HL c R R')) : (c = true → FunOk P f AL HL R) ∧ (c = false → FunOk P f AL HL R') := by
  refine ⟨fun hc => ?_, fun hc => ?_⟩
  · refine fun_okG (E := { P := P, T := T, nt := fn.ntmps }) hm hT htl hf (bodyOf_eq hb) rfl hal (C := { it := it, m := HL.length, L := L, hs := hs, sp := sp }) hIt rfl rfl (fun _ _ _ hh => hh) (fun e fr df H hk => ?_) h
    cases e with
    | pan x => have := hk.1; rw [hc] at this; cases this
    | nrm => exact hk.2
    | ret => exact hk.2
    | exit i => exact hk.elim
    | goto i => exact hk.elim
  · refine fun_okG (E := { P := P, T := T, nt := fn.ntmps }) hm hT htl hf (bodyOf_eq hb) rfl hal (C := { it := it, m := HL.length, L := L, hs := hs, sp := sp }) hIt rfl rfl (fun _ _ _ hh => hh) (fun e fr df H hk => ?_) h
    cases e with
    | pan x => exact hk.2
    | nrm => have := hk.1; rw [hc] at this; cases this
    | ret => have := hk.1; rw [hc] at this; cases this
    | exit i => exact hk.elim
    | goto i => exact hk.elim

theorem fun_of {P : Program} {T : Tab U} (hm : P.follows .mixedOrders = true) (hT : T.Sound P) {f : FuncId} {fn : Func} (hf : P.funcs[f]? = some fn) (hb : fn.body.isSome = true) {AL : List AV} (hal : Nat.ble AL.length fn.ntmps = true) {HL : Heap U} {R : OOut U}
    {L : Nat → Option (LRule U)} {hs : Nat → List Nat} (h : wpA { P := P, T := T, nt := fn.ntmps } { m := HL.length, L := L, hs := hs } (bodyOf fn) (frameOf 0 AL) [] HL (endG P T (fun _ => none) fn HL R)) : FunOk P f AL HL R :=
  fun_ofG (sp := fun _ => none) hm hT (fun _ _ h => by cases h) (fun _ _ h => by cases h) hf hb hal h

theorem enter_of {P : Program} {f : FuncId} {fn : Func} (hf : P.funcs[f]? = some fn) (hname : (fn.name == "runtime.NumGoroutine") = false) (hb : fn.body.isSome = true) (args : Array Value) (w : World) :
    (callFunc f args).run P w = .ok (.enter f args) w := by
  have h1 : fn.name ≠ "runtime.NumGoroutine" := by simpa using hname
  obtain ⟨c, hc⟩ := Option.isSome_iff_exists.1 hb
  simp [callFunc, hf, h1, hc]

theorem Tab.Sound.nil {P : Program} : Tab.Sound P ([] : Tab U) := trivial
theorem Tab.Sound.cons {P : Program} {f : FuncId} {c : Con U} {T : Tab U} (h : AE.Sound P f c) (hT : T.Sound P) : Tab.Sound P ((f, c) :: T) := ⟨h, hT⟩
end AE
