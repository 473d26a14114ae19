/- SymmetryPermutes: for every two permutations and every marking the law answers true; the arguments read as they did. The listed package-level variables start as the program's text lays them (the card ties them); no other condition. -/
import Derived.Test.YtlpeajiemppicaaGreatDoorPnSyE
import Derived.Test.YtlpeajiemppicaaGreatDoorPnSyT
import Derived.Test.YtlpeajiemppicaaGreatDoorPnWaE
import Derived.Test.YtlpeajiemppicaaGreatDoorRows
import Derived.Test.YtlpeajiemppicaaGreatDoorTie
import Derived.Test.YtlpeajiemppicaaGreatDoorCards
import Derived.SevenTiedAt
namespace Go.Proofs.YtlpeajiemppicaaGreatDoor
open Go Go.Ax Go.ChangeShapes Go.WideShapes Go.ChangeAt Go.RowKit
set_option linter.unusedSimpArgs false
set_option linter.unusedVariables false
set_option maxRecDepth 100000

theorem Tryz.own : ownKnob Tryz.prog.godebug = none := by kernel_rfl
theorem Tryz.laidOut : laidOutB Tryz.prog = true := by kernel_rfl
theorem Tryz.follows : Tryz.prog.follows .mixedOrders = true := by kernel_rfl

theorem noNG_of {P : Program} (h : (P.funcs.toList.all fun fn => !(fn.name == "runtime.NumGoroutine")) = true) : NoNG P := fun f fn hf _ => by
  have h1 := List.all_eq_true.1 h fn (Array.mem_toList_iff.2 (Array.mem_of_getElem? hf))
  simpa using h1
theorem Tryz.noNG : NoNG Tryz.prog := noNG_of (by kernel_rfl)

theorem Tryz.u3 : Tryz.prog.underlying 3 = some (.int .i64) := by kernel_rfl
theorem Tryz.u22 : Tryz.prog.underlying 22 = some (.slice 3) := by kernel_rfl

theorem ints_of {H : Type} {n : Nat} : ∀ {es : List (DataW H)}, (∀ x ∈ es, ShapeD Tryz.prog (n + 1) 3 x) → ∃ xs : List Int, xs.length = es.length ∧ absL es = intl xs
  | [], _ => ⟨[], rfl, rfl⟩
  | x :: es, h => by
    have h0 := h x (by simp)
    unfold ShapeD at h0
    rw [Tryz.u3] at h0
    obtain ⟨a, rfl, _⟩ := h0
    obtain ⟨xs, h1, h2⟩ := ints_of (es := es) fun y hy => h y (by simp [hy])
    exact ⟨a :: xs, by simp [h1], by simp [absL, absD, intl, h2]⟩

theorem arg_of {H : Type} {n : Nat} {d : DataW H} (h : ShapeD Tryz.prog (n + 2) 22 d) : ∃ (cxb : Bool) (xs : List Int), argV Tryz.prog 22 d = .fsl false cxb xs.length (intl xs) := by
  unfold ShapeD at h
  rw [Tryz.u22] at h
  rcases h with rfl | ⟨es, sp, rfl, hes⟩
  · exact ⟨true, [], by simp [argV, Tryz.u22, absD]⟩
  · obtain ⟨xs, h1, h2⟩ := ints_of hes
    cases sp with
    | nil => exact ⟨true, xs, by simp [argV, Tryz.u22, absD, h2, h1]⟩
    | cons y r => exact ⟨false, xs, by simp [argV, Tryz.u22, absD, h2, h1]⟩

theorem permutes_met (os : Os) (args : Array Value) : laidMetH Tryz.prog Rows.symmetryPermutesRow.laid ((World.doorLaid Tryz.prog 400 os).forCall (fun _ _ => 0) ⟨#[], args, []⟩).memory :=
  laidMetH_of_parts3 (fuel := 8) (laidMet_of_run' 8 (by kernel_rfl) (by kernel_rfl)) (by kernel_rfl) (by kernel_rfl)

theorem permutes_lifted (os : Os) (started : os.Started) (H : Type) (enc : TypeId × Value → H) :
    ReturnsInHanded {} Tryz.checked os 3 .any (fun w args => (Rows.symmetryPermutesSpec.pre enc Tryz.prog Tryz.f3 [] false w args ∧ laidMetH Tryz.prog Rows.symmetryPermutesRow.laid w) ∧ sizedMet enc Tryz.prog Tryz.f3 (OpenSpec.ofChange Rows.symmetryPermutesSpec) false w args)
      (Rows.symmetryPermutesSpec.post enc Tryz.prog Tryz.f3 false true false false) := by
  refine returnsInHanded_of_change_and (C := Tryz.checked) (X := fun w _ => laidMetH Tryz.prog Rows.symmetryPermutesRow.laid w) (fun _ _ _ hh h => h.of_heap hh) Tryz.own started (by kernel_rfl) Tryz.func3
    (ChangeSpec.witness_shaped (enc := enc) (C := Tryz.checked) (os := os) (X := fun w _ => laidMetH Tryz.prog Rows.symmetryPermutesRow.laid w) false (World.doorLaid Tryz.prog 400 os) #[.slice none 0 0, .slice none 0 0, .slice none 0 0] 8 rfl (World.shaped_of_RefB (by kernel_rfl) (by kernel_rfl)) (by kernel_rfl) (by kernel_rfl) (by kernel_rfl) (permutes_met os _)) ?_
  intro W base args ds gs before hval0 hW _ _ _ _
  have hval : ∀ (j : Nat) t v, Tryz.f3.params[j]? = some t → args[j]? = some v → Value.okWide Tryz.prog W .any base t v := hval0
  have hW' := hW
  obtain ⟨p, q, hA0, hV, rfl, hfz, hnd⟩ := hW
  have hA : DataW.TrodAll enc Tryz.prog W 0 (fun _ => true) true Tryz.f3.params.toList args.toList ds p := hA0
  rw [Tryz.params3] at hA hval
  obtain ⟨v0, v1, v2, d0, d1, d2, p0, p1, p2, rfl, rfl, rfl, h0, h1, h2⟩ := trodAll_three hA
  have hgs : gs = [] := (trodVars_none hV).1
  subst hgs
  obtain ⟨f0, s0⟩ := arg_fit (P := Tryz.prog) (n := 4) (fun _ => rfl) (by kernel_rfl) (hval 0 22 v0 rfl rfl) h0
  obtain ⟨f1, s1⟩ := arg_fit (P := Tryz.prog) (n := 4) (fun _ => rfl) (by kernel_rfl) (hval 1 22 v1 rfl rfl) h1
  obtain ⟨f2, s2⟩ := arg_fit (P := Tryz.prog) (n := 4) (fun _ => rfl) (by kernel_rfl) (hval 2 22 v2 rfl rfl) h2
  obtain ⟨c0, xs, e0⟩ := arg_of (n := 2) s0
  obtain ⟨c1, ys, e1⟩ := arg_of (n := 2) s1
  obtain ⟨c2, zs, e2⟩ := arg_of (n := 2) s2
  rw [e0] at f0
  rw [e1] at f1
  rw [e2] at f2
  refine (ExCall.calls ⟨Tryz.noNG, sortsY⟩ Tryz.follows (call3 c0 c1 c2 xs ys zs livesY) (fun _ => rfl) (FitL.three f0 f1 f2)).mono fun e W' ⟨he, hb⟩ => ?_
  exact ⟨_, he, post_pure (tb := 4) Tryz.laidOut hW' rfl rfl (by kernel_rfl) (by kernel_rfl) (by kernel_rfl) hb⟩

theorem permutes_holds : Rows.SymmetryPermutesSaid :=
  OpenClaim.holds_of_wide 3 Tryz.f3 rfl rfl rfl rfl rfl rfl rfl ⟨rfl, rfl, rfl, rfl, rfl⟩ rfl rfl rfl rfl rfl (by kernel_rfl) Tryz.func3 (by kernel_rfl)
    (of_decide_eq_true (by kernel_rfl)) (by unfold Func.isWrapper; first | (rw [if_pos (by decide +kernel)]; kernel_rfl) | (rw [if_neg (by decide +kernel)]; exact ⟨rfl, rfl⟩))
    (fun os started H enc _ => permutes_lifted os started H enc)

theorem permutes_card : Rows.SymmetryPermutesCardSaid :=
  Claim7.holds_tied_plain_at .later [] [.data, .data, .data] true (true, "60d561b2b3fca20c56f9f4b4a6834c42cbc561d045cc38033b8b39f188339c37") false
    permutes_holds (fun _ h => by cases h) (by kernel_rfl) (fun _ h => by cases h) symmetryPermutes_row_tie rfl ⟨rfl, rfl⟩ (by kernel_rfl) rfl
    (fun f fn hf hfn => by
      obtain rfl : f = 3 := Option.some.inj ((show Tryz.prog.funcNamed "petrinet/petrinetlaw18.SymmetryPermutes" = some 3 by kernel_rfl).symm.trans hf) |>.symm
      obtain rfl : fn = Tryz.f3 := (Option.some.inj (Tryz.func3.symm.trans hfn)).symm
      exact ⟨by kernel_rfl, fun j t ht => by
        rw [Tryz.params3] at ht
        have hm : t ∈ [22, 22, 22] := by simpa using Array.mem_of_getElem? ht
        have hall : ([22, 22, 22].all fun u => !Tryz.prog.wantsStandIn u) = true := by kernel_rfl
        exact (show Tryz.prog.wantsStandIn t = false by simpa using List.all_eq_true.1 hall t hm)⟩)
    (by kernel_rfl)
#print axioms permutes_card
end Go.Proofs.YtlpeajiemppicaaGreatDoor
