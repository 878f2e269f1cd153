/- An own symbolic executor: contracts with two ways. No condition. -/
import Derived.Test.YtfhpdgmhdppggaaAe30
namespace AE
open Go

variable {U : Uni}

/-- A function that ends in one of two ways, by what its arguments are. -/
structure FSpec2 (U : Uni) where
  X : Type
  pick : List AV → Heap U → Option X
  args : X → List AV
  H : X → Heap U
  c : X → Bool
  R : X → OOut U
  R' : X → OOut U
  pre : X → Prop := fun _ => True

def FSpec2.con (s : FSpec2 U) : Con U := fun args H base K =>
  match s.pick args H with
  | some x => s.pre x ∧ (s.c x = true → callN args (s.args x) H (s.H x) base (s.R x) K) ∧ (s.c x = false → callN args (s.args x) H (s.H x) base (s.R' x) K)
  | none => False

theorem FSpec2.sound {P : Program} {f : FuncId} (s : FSpec2 U) (he : ∀ args w, (callFunc f args).run P w = .ok (.enter f args) w)
    (h : ∀ x, s.pre x → (s.c x = true → FunOk P f (s.args x) (s.H x) (s.R x)) ∧ (s.c x = false → FunOk P f (s.args x) (s.H x) (s.R' x))) : Sound P f s.con where
  enters := he
  ok := fun args H base K hk => by
    unfold FSpec2.con at hk
    split at hk
    · rename_i x _
      cases hc : s.c x with
      | true => exact liftN_ok ((h x hk.1).1 hc) (hk.2.1 hc)
      | false => exact liftN_ok ((h x hk.1).2 hc) (hk.2.2 hc)
    · exact hk.elim
end AE
