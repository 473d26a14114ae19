/- AlignTotals: for every cost and every list of moves the law answers true; the arguments read as they did. The listed package-level variables start as the program's text lays them (the card ties them); no other condition. -/
import Derived.Test.YtimependhfohlaaDoorPnAtB
import Derived.Test.YtimependhfohlaaDoorPnAtC
import Derived.Test.YtimependhfohlaaDoorPnWaE
import Derived.Test.YtimependhfohlaaDoorRows
import Derived.Test.YtimependhfohlaaDoorTie
import Derived.Test.YtimependhfohlaaDoorCards
import Derived.SevenTiedAt
namespace Go.Proofs.YtimependhfohlaaDoor
open Go Go.Ax Go.ChangeShapes Go.WideShapes Go.ChangeAt Go.RowKit
set_option linter.unusedSimpArgs false
set_option linter.unusedVariables false
set_option maxRecDepth 100000

theorem Tryd.own : ownKnob Tryd.prog.godebug = none := by kernel_rfl
theorem Tryd.laidOut : laidOutB Tryd.prog = true := by kernel_rfl
theorem Tryd.follows : Tryd.prog.follows .mixedOrders = true := by kernel_rfl

theorem noNG_of {P : Program} (h : (P.funcs.toList.all fun fn => !(fn.name == "runtime.NumGoroutine")) = true) : NoNG P := fun f fn hf _ => by
  have h1 := List.all_eq_true.1 h fn (Array.mem_toList_iff.2 (Array.mem_of_getElem? hf))
  simpa using h1
theorem Tryd.noNG : NoNG Tryd.prog := noNG_of (by kernel_rfl)

theorem Tryd.u3 : Tryd.prog.underlying 3 = some (.int .i64) := by kernel_rfl
def fieldsT (P : Program) (t : TypeId) : Option (Array Field) := match P.underlying t with
  | some (.struct fs) => some fs
  | _ => none
theorem fieldsT_of {P : Program} {t : TypeId} {l : List TypeId} (h : (fieldsT P t).map (fun fs => fs.toList.map (·.type)) = some l) : ∃ fs, P.underlying t = some (.struct fs) ∧ fs.toList.map (·.type) = l := by
  unfold fieldsT at h
  split at h
  · rename_i fs hu
    exact ⟨fs, hu, by simpa using h⟩
  · cases h
theorem Tryd.u23 : ∃ fs, Tryd.prog.underlying 23 = some (.struct fs) ∧ (fs.toList.map (·.type)) = [3, 3] := fieldsT_of (by kernel_rfl)
theorem Tryd.u24 : Tryd.prog.underlying 24 = some (.slice 41) := by kernel_rfl
theorem Tryd.u41 : ∃ fs, Tryd.prog.underlying 41 = some (.struct fs) ∧ (fs.toList.map (·.type)) = [3, 3] := fieldsT_of (by kernel_rfl)

/-- A reading of two ints. -/
theorem two_ints {H : Type} {n : Nat} {t : TypeId} {d : DataW H} (hu : ∃ fs, Tryd.prog.underlying t = some (.struct fs) ∧ (fs.toList.map (·.type)) = [3, 3]) (h : ShapeD Tryd.prog (n + 2) t d) : ∃ a b : Int, d = .agg [.lit (.int .i64 a), .lit (.int .i64 b)] := by
  obtain ⟨fs, hu, hfs⟩ := hu
  unfold ShapeD at h
  rw [hu] at h
  obtain ⟨ps, rfl, hl, hp⟩ := h
  obtain ⟨l⟩ := fs
  rcases l with _ | ⟨f0, _ | ⟨f1, _ | ⟨f2, r⟩⟩⟩
  · simp at hfs
  · simp at hfs
  · simp only [List.map_cons, List.map_nil, List.cons.injEq, and_true] at hfs
    rcases ps with _ | ⟨x0, _ | ⟨x1, _ | ⟨x2, r⟩⟩⟩
    · simp at hl
    · simp at hl
    · have h0 := hp 0 f0 x0 rfl rfl
      have h1 := hp 1 f1 x1 rfl rfl
      rw [hfs.1] at h0
      rw [hfs.2] at h1
      unfold ShapeD at h0 h1
      rw [Tryd.u3] at h0 h1
      obtain ⟨a, rfl, _⟩ := h0
      obtain ⟨b, rfl, _⟩ := h1
      exact ⟨a, b, rfl⟩
    · simp at hl
  · simp at hfs

theorem moves_of {H : Type} {n : Nat} : ∀ {es : List (DataW H)}, (∀ x ∈ es, ShapeD Tryd.prog (n + 2) 41 x) → ∃ ms : List (Int × Int), ms.length = es.length ∧ absL es = mcells ms
  | [], _ => ⟨[], rfl, rfl⟩
  | x :: es, h => by
    obtain ⟨a, b, rfl⟩ := two_ints Tryd.u41 (h x (by simp))
    obtain ⟨ms, h1, h2⟩ := moves_of (es := es) fun y hy => h y (by simp [hy])
    exact ⟨(a, b) :: ms, by simp [h1], by simp [absL, absD, mcells, h2]⟩

theorem arg0_of {H : Type} {n : Nat} {d : DataW H} (h : ShapeD Tryd.prog (n + 2) 23 d) : ∃ log net : Int, argV Tryd.prog 23 d = .agg [.int .i64 log, .int .i64 net] := by
  obtain ⟨a, b, rfl⟩ := two_ints Tryd.u23 h
  obtain ⟨fs, hu, _⟩ := Tryd.u23
  exact ⟨a, b, by simp [argV, hu, absD, absL]⟩

theorem arg1_of {H : Type} {n : Nat} {d : DataW H} (h : ShapeD Tryd.prog (n + 3) 24 d) : ∃ (cxb : Bool) (ms : List (Int × Int)), argV Tryd.prog 24 d = .fsl false cxb ms.length (mcells ms) := by
  unfold ShapeD at h
  rw [Tryd.u24] at h
  rcases h with rfl | ⟨es, sp, rfl, hes⟩
  · exact ⟨true, [], by simp [argV, Tryd.u24, absD, mcells]⟩
  · obtain ⟨ms, h1, h2⟩ := moves_of hes
    cases sp with
    | nil => exact ⟨true, ms, by simp [argV, Tryd.u24, absD, h2, h1]⟩
    | cons y r => exact ⟨false, ms, by simp [argV, Tryd.u24, absD, h2, h1]⟩

theorem totals_met (os : Os) (args : Array Value) : laidMetH Tryd.prog Rows.alignTotalsRow.laid ((World.doorLaid Tryd.prog 400 os).forCall (fun _ _ => 0) ⟨#[], args, []⟩).memory :=
  laidMetH_of_parts3 (fuel := 8) (laidMet_of_run' 8 (by kernel_rfl) (by kernel_rfl)) (by kernel_rfl) (by kernel_rfl)

theorem totals_lifted (os : Os) (started : os.Started) (H : Type) (enc : TypeId × Value → H) :
    ReturnsInHanded {} Tryd.checked os 3 .any (fun w args => (Rows.alignTotalsSpec.pre enc Tryd.prog Tryd.f3 [] false w args ∧ laidMetH Tryd.prog Rows.alignTotalsRow.laid w) ∧ sizedMet enc Tryd.prog Tryd.f3 (OpenSpec.ofChange Rows.alignTotalsSpec) false w args)
      (Rows.alignTotalsSpec.post enc Tryd.prog Tryd.f3 false true false false) := by
  refine returnsInHanded_of_change_and (C := Tryd.checked) (X := fun w _ => laidMetH Tryd.prog Rows.alignTotalsRow.laid w) (fun _ _ _ hh h => h.of_heap hh) Tryd.own started (by kernel_rfl) Tryd.func3
    (ChangeSpec.witness_shaped (enc := enc) (C := Tryd.checked) (os := os) (X := fun w _ => laidMetH Tryd.prog Rows.alignTotalsRow.laid w) false (World.doorLaid Tryd.prog 400 os) #[.agg #[.int .i64 0, .int .i64 0], .slice none 0 0] 8 rfl (World.shaped_of_RefB (by kernel_rfl) (by kernel_rfl)) (by kernel_rfl) (by kernel_rfl) (by kernel_rfl) (totals_met os _)) ?_
  intro W base args ds gs before hval0 hW _ _ _ _
  have hval : ∀ (j : Nat) t v, Tryd.f3.params[j]? = some t → args[j]? = some v → Value.okWide Tryd.prog W .any base t v := hval0
  have hW' := hW
  obtain ⟨p, q, hA0, hV, rfl, hfz, hnd⟩ := hW
  have hA : DataW.TrodAll enc Tryd.prog W 0 (fun _ => true) true Tryd.f3.params.toList args.toList ds p := hA0
  rw [Tryd.params3] at hA hval
  obtain ⟨v0, v1, d0, d1, p0, p1, rfl, rfl, rfl, h0, h1⟩ := trodAll_two hA
  have hgs : gs = [] := (trodVars_none hV).1
  subst hgs
  obtain ⟨f0, s0⟩ := arg_fit (P := Tryd.prog) (n := 4) (fun _ => rfl) (by kernel_rfl) (hval 0 23 v0 rfl rfl) h0
  obtain ⟨f1, s1⟩ := arg_fit (P := Tryd.prog) (n := 4) (fun _ => rfl) (by kernel_rfl) (hval 1 24 v1 rfl rfl) h1
  obtain ⟨log, net, e0⟩ := arg0_of (n := 2) s0
  obtain ⟨cxb, ms, e1⟩ := arg1_of (n := 1) s1
  rw [e0] at f0
  rw [e1] at f1
  refine (ExCall.calls Tryd.noNG Tryd.follows (call3 log net cxb ms awake5) (fun _ => rfl) (FitL.two f0 f1)).mono fun e W' ⟨he, hb⟩ => ?_
  exact ⟨_, he, post_pure (tb := 4) Tryd.laidOut hW' rfl rfl (by kernel_rfl) (by kernel_rfl) (by kernel_rfl) hb⟩

theorem totals_holds : Rows.AlignTotalsSaid :=
  OpenClaim.holds_of_wide 3 Tryd.f3 rfl rfl rfl rfl rfl rfl rfl ⟨rfl, rfl, rfl, rfl, rfl⟩ rfl rfl rfl rfl rfl (by kernel_rfl) Tryd.func3 (by kernel_rfl)
    (of_decide_eq_true (by kernel_rfl)) (by unfold Func.isWrapper; first | (rw [if_pos (by decide +kernel)]; kernel_rfl) | (rw [if_neg (by decide +kernel)]; exact ⟨rfl, rfl⟩))
    (fun os started H enc _ => totals_lifted os started H enc)

theorem totals_card : Rows.AlignTotalsCardSaid :=
  Claim7.holds_tied_plain_at .later [] [.data, .data, .data] true (true, "23aee54dbd68124243508dd43e6ce75cf36c668f34d44883c600b4eefc49abd4") true
    totals_holds (fun _ h => by cases h) (by kernel_rfl) (fun _ h => by cases h) alignTotals_row_tie rfl ⟨rfl, rfl⟩ (by kernel_rfl) rfl
    (fun f fn hf hfn => by
      obtain rfl : f = 3 := Option.some.inj ((show Tryd.prog.funcNamed "petrinet/petrinetlaw51.AlignTotals" = some 3 by kernel_rfl).symm.trans hf) |>.symm
      obtain rfl : fn = Tryd.f3 := (Option.some.inj (Tryd.func3.symm.trans hfn)).symm
      exact ⟨by kernel_rfl, fun j t ht => by
        rw [Tryd.params3] at ht
        have hm : t ∈ [23, 24] := by simpa using Array.mem_of_getElem? ht
        have hall : ([23, 24].all fun u => !Tryd.prog.wantsStandIn u) = true := by kernel_rfl
        exact (show Tryd.prog.wantsStandIn t = false by simpa using List.all_eq_true.1 hall t hm)⟩)
    (by kernel_rfl)
#print axioms totals_card
end Go.Proofs.YtimependhfohlaaDoor
