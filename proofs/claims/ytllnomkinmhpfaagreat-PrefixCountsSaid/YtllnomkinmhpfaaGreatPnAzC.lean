/- A call from outside: what the interpreter answers, in the words of the claim. -/
import Derived.Test.YtllnomkinmhpfaaGreatPnAzB
import Derived.Below
namespace Go.Ax
set_option linter.unusedVariables false
set_option linter.unusedSimpArgs false
variable {P : Program} {pol : Pol} {w : World}

/-- Nothing is owned, nothing is lent. -/
abbrev Out0 (w : World) : AVal → Value → Prop := Fit (fun _ _ => none) (fun _ => False) (fun _ => False) w

abbrev Out0L (w : World) (xs : List AVal) (vs : List Value) : Prop := FitL (fun _ _ => none) (fun _ => False) (fun _ => False) w xs vs

theorem free0 (w : World) : ∀ g, g < w.heap.size → Free (fun _ => False) (fun _ => False) false g := fun g _ => ⟨id, fun _ => id⟩

theorem rs0 : Rs (fun _ _ => none) St.init.heap (fun _ => False) = fun _ => False := funext fun g => propext ⟨fun h => h.elim (fun h => own_none h) id, False.elim⟩

theorem good0 (w : World) : Good (fun _ _ => none) (fun _ => False) (fun _ => False) St.init w where
  inj := fun _ _ _ _ _ h => by cases h
  lt := fun _ _ _ h => by cases h
  fresh := fun _ _ _ => rfl
  ids := fun _ _ _ _ h => by cases h
  blk := fun _ _ h => by cases h
  sep := fun g h => absurd h own_none
  res := fun g h => h.elim
  tnt := fun g h => h.elim

theorem exec_top (hP : NoNG P) (hm : P.follows .mixedOrders = true) {n : Nat} {f : FuncId} {args : List AVal} {b : Bool} {e : Env} {st' : St} (h : exec pol P n (.call f args St.init) = some ⟨.val (.bool b), e, st'⟩)
    (hgl : ∀ g cells, pol.glob g = some cells → Out0 w (.fptr false cells) (.pointer (some ⟨g, 0, none⟩))) {xs : List Value} (hf : Out0L w args xs) :
    Calls P f xs.toArray w fun e w' => e = .returned (.bool b) ∧ RowKit.Below w.heap.size w w' := by
  have hc := exec_calls (ρ := fun _ _ => none) (T := fun _ => False) (Res := fun _ => False) (w := w) hP hm h (good0 w) (by rw [rs0]; exact hgl) (xs := xs) (by rw [rs0]; exact hf)
  refine callsIn_wide.1 (hc.mono fun e w' he => ?_)
  cases e with
  | panicked | outgrown => exact he.elim
  | returned x =>
    obtain ⟨ρ', h1, h2, _⟩ := he
    cases h1
    exact ⟨rfl, h2.os, h2.tape, h2.output, h2.size, fun g hg => h2.frame g hg own_none⟩
end Go.Ax
