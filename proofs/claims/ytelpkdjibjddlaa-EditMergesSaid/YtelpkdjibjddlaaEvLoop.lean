/-
  EV: loops and cuts whose dead temporaries are told by one function.
-/
import Derived.Test.YtelpkdjibjddlaaEvWalk
namespace Go.Ev
open Go Go.RowKit

/-- What a frame's temporaries hold. -/
def Jof (fr : Fr) (k : Nat) : Value := fr.tmps.getD k undef
section
variable {T : Tab} {cx : Ctx} {fr : Fr} {s : St}
theorem Ends.loopJ {b : Code} {Q : Ex → Fr → St → Prop} (I : Nat → (Nat → Value) → Fr → St → Prop) (h : ∀ n j fr s, I n j fr s → Ends T cx b fr s fun e fr' s' => match e with
    | .normal => ∃ m, m < n ∧ I m (Jof fr') fr' s'
    | e => Q e fr' s') : ∀ n fr s, I n (Jof fr) fr s → Ends T cx (.loop b) fr s Q := fun n fr s hI =>
  Ends.loopInv (fun n fr s => ∃ j, I n j fr s) (fun n fr s ⟨j, h1⟩ => (h n j fr s h1).mono fun e fr' s' h2 => by
    cases e with
    | normal => obtain ⟨m, h3, h4⟩ := h2; exact ⟨m, h3, _, h4⟩
    | ret => exact h2
    | exit i => exact h2) n fr s ⟨_, hI⟩
theorem Ends.cutJ {c : Code} {Q : Ex → Fr → St → Prop} (P : (Nat → Value) → Fr → St → Prop) (h : Ends T cx c fr s fun e fr s => e = .normal ∧ P (Jof fr) fr s) (h2 : ∀ j fr s, P j fr s → Q .normal fr s) : Ends T cx c fr s Q :=
  h.mono fun _ fr s ⟨h3, h4⟩ => by subst h3; exact h2 _ fr s h4
end
end Go.Ev

