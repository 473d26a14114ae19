/- The examples of chapter 51 stand: 'petrinetlaw51.awake' (5) answers true, by the kernel. -/
import Derived.Test.YtimependhfohlaaDoorPnAtA
namespace Go.Ax
open Go.Proofs
def isTrueR : Option Res → Bool
  | some ⟨.val (.bool b), _, _⟩ => b
  | _ => false
theorem isTrueR_ex {r : Option Res} (h : isTrueR r = true) : ∃ e s, r = some ⟨.val (.bool true), e, s⟩ := by
  unfold isTrueR at h
  split at h
  · subst h; exact ⟨_, _, rfl⟩
  · cases h
set_option maxRecDepth 100000 in
theorem awake5_run : isTrueR (exec polT Tryd.prog 200 (.call 5 [] St.init)) = true := by kernel_rfl
theorem awake5 : ExCall polT Tryd.prog 5 [] (.bool true) := by
  obtain ⟨e, s, h⟩ := isTrueR_ex awake5_run
  exact ⟨200, _, e, s, [], h, rfl⟩
end Go.Ax
