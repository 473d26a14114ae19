/- The policy of the interpreter for law29. -/
import Derived.Test.YtllnomkinmhpfaaGreatPnWaC
import Derived.Test.YtllnomkinmhpfaaGreatProg
namespace Go.Ax
open Go.Proofs
def polP : Pol := { shared := fun f => f == 56 || f == 36 || f == 17 || f == 94 || f == 33 || f == 32, esc := fun f => f == 94, keep := fun f => f == 132 || f == 133, fresh := fun f _ => f == 56 || f == 36, glob := fun _ => none }
def isTrueR : Option Res → Bool
  | some ⟨.val (.bool b), _, _⟩ => b
  | _ => false
theorem isTrueR_ex {r : Option Res} (h : isTrueR r = true) : ∃ e s, r = some ⟨.val (.bool true), e, s⟩ := by
  unfold isTrueR at h
  split at h
  · subst h; exact ⟨_, _, rfl⟩
  · cases h
end Go.Ax
