/- The policy of the interpreter for law18. -/
import Derived.Test.YtlpeajiemppicaaGreatDoorPnWaL
import Derived.Test.YtlpeajiemppicaaGreatDoorPnSyS
namespace Go.Ax
open Go.Proofs
def polY : Pol := { shared := fun f => f == 26 || f == 66 || f == 36 || f == 55 || f == 77 || f == 31 || f == 53 || f == 67 || f == 33 || f == 35, esc := fun f => f == 66 || f == 36, keep := fun _ => false, fresh := fun f _ => f == 41, glob := fun _ => none, sorts := fun f => f == 56 }
theorem sortsY : SortsOk polY Tryz.prog := fun f hf => by
  have e : f = 56 := by simpa [polY] using hf
  subst e
  refine ⟨⟨Tryz.f56, (Tryz.f56.body).getD .skip, Tryz.func56, by kernel_rfl⟩, fun blk off cap zs w hH hb hn => ?_, fun A cap w => Tryz.slices_Sort_int_none A cap w⟩
  rw [← mergeSort_isort]
  exact Tryz.slices_Sort_int blk off cap zs w hH hb hn
end Go.Ax
