/- PrefixCounts: for every process the law answers true; the argument reads as it did. No condition. -/
import Derived.Test.YtllnomkinmhpfaaGreatPnPcB
import Derived.Test.YtllnomkinmhpfaaGreatPnPcT
import Derived.Test.YtllnomkinmhpfaaGreatPnWaE
import Derived.SizedLaws
import Derived.Test.YtllnomkinmhpfaaGreatRows
namespace Go.Proofs.YtllnomkinmhpfaaGreat
open Go Go.Ax Go.ChangeShapes Go.WideShapes Go.ChangeAt Go.RowKit
set_option linter.unusedSimpArgs false
set_option linter.unusedVariables false
set_option maxRecDepth 100000

theorem Tryz.own : ownKnob Tryz.prog.godebug = none := by kernel_rfl
theorem Tryz.laidOut : laidOutB Tryz.prog = true := by kernel_rfl
theorem Tryz.follows : Tryz.prog.follows .mixedOrders = true := by kernel_rfl

theorem noNG_of {P : Program} (h : (P.funcs.toList.all fun fn => !(fn.name == "runtime.NumGoroutine")) = true) : NoNG P := fun f fn hf _ => by
  have h1 := List.all_eq_true.1 h fn (Array.mem_toList_iff.2 (Array.mem_of_getElem? hf))
  simpa using h1
theorem Tryz.noNG : NoNG Tryz.prog := noNG_of (by kernel_rfl)

def fieldsT (P : Program) (t : TypeId) : Option (Array Field) := match P.underlying t with
  | some (.struct fs) => some fs
  | _ => none
theorem fieldsT_of {P : Program} {t : TypeId} {l : List TypeId} (h : (fieldsT P t).map (fun fs => fs.toList.map (·.type)) = some l) : ∃ fs, P.underlying t = some (.struct fs) ∧ fs.toList.map (·.type) = l := by
  unfold fieldsT at h
  split at h
  · rename_i fs hu
    exact ⟨fs, hu, by simpa using h⟩
  · cases h
theorem Tryz.u3 : Tryz.prog.underlying 3 = some (.int .i64) := by kernel_rfl
theorem Tryz.u4 : Tryz.prog.underlying 4 = some .bool := by kernel_rfl
theorem Tryz.u22 : Tryz.prog.underlying 22 = some (.slice 62) := by kernel_rfl
theorem Tryz.u23 : Tryz.prog.underlying 23 = some (.slice 34) := by kernel_rfl
theorem Tryz.u26 : Tryz.prog.underlying 26 = some (.slice 3) := by kernel_rfl
theorem Tryz.u25 : ∃ fs, Tryz.prog.underlying 25 = some (.struct fs) ∧ (fs.toList.map (·.type)) = [22, 23] := fieldsT_of (by kernel_rfl)
theorem Tryz.u34 : ∃ fs, Tryz.prog.underlying 34 = some (.struct fs) ∧ (fs.toList.map (·.type)) = [3, 26, 26, 4] := fieldsT_of (by kernel_rfl)
theorem Tryz.b34 : Tryz.prog.bytesOf 34 = 64 := by kernel_rfl

/-- The parts of a struct, each with its shape. -/
theorem parts_of {H : Type} {P : Program} {n : Nat} {t : TypeId} {ts : List TypeId} {d : DataW H} (hu : ∃ fs, P.underlying t = some (.struct fs) ∧ (fs.toList.map (·.type)) = ts) (h : ShapeD P (n + 1) t d) :
    ∃ ps, d = .agg ps ∧ ps.length = ts.length ∧ ∀ (j : Nat) u x, ts[j]? = some u → ps[j]? = some x → ShapeD P n u x := by
  obtain ⟨fs, hu, hfs⟩ := hu
  unfold ShapeD at h
  rw [hu] at h
  obtain ⟨ps, rfl, hl, hp⟩ := h
  refine ⟨ps, rfl, by rw [hl, ← hfs]; simp, fun j u x hj hx => ?_⟩
  rw [← hfs, List.getElem?_map] at hj
  cases hf : fs.toList[j]? with
  | none => rw [hf] at hj; cases hj
  | some f =>
    rw [hf] at hj
    simp only [Option.map_some, Option.some.injEq] at hj
    subst hj
    exact hp j f x (by simpa using hf) hx

theorem slice_any {H : Type} {P : Program} {n : Nat} {t e : TypeId} {d : DataW H} (hu : P.underlying t = some (.slice e)) (h : ShapeD P (n + 1) t d) : ∃ c l s, absD d = [.fsl false c l s] := by
  unfold ShapeD at h
  rw [hu] at h
  rcases h with rfl | ⟨es, sp, rfl, _⟩
  · exact ⟨true, 0, [], rfl⟩
  · exact ⟨_, _, _, rfl⟩

theorem event_of {H : Type} {n : Nat} {d : DataW H} (h : ShapeD Tryz.prog (n + 3) 34 d) : ∃ e : EvD, absD d = encE e := by
  obtain ⟨ps, rfl, hl, hp⟩ := parts_of Tryz.u34 h
  rcases ps with _ | ⟨x0, _ | ⟨x1, _ | ⟨x2, _ | ⟨x3, _ | ⟨x4, r⟩⟩⟩⟩⟩ <;> simp only [List.length_cons, List.length_nil] at hl <;> try omega
  have h0 := hp 0 3 x0 rfl rfl
  have h3 := hp 3 4 x3 rfl rfl
  obtain ⟨c1, l1, s1, e1⟩ := slice_any Tryz.u26 (hp 1 26 x1 rfl rfl)
  obtain ⟨c2, l2, s2, e2⟩ := slice_any Tryz.u26 (hp 2 26 x2 rfl rfl)
  unfold ShapeD at h0 h3
  rw [Tryz.u3] at h0
  rw [Tryz.u4] at h3
  obtain ⟨a, rfl, _⟩ := h0
  obtain ⟨b, rfl⟩ := h3
  exact ⟨⟨a, c1, l1, s1, c2, l2, s2, b⟩, by simp [absD, absL, e1, e2, encE]⟩

theorem events_of {H : Type} {n : Nat} : ∀ {es : List (DataW H)}, (∀ x ∈ es, ShapeD Tryz.prog (n + 3) 34 x) → ∃ evs : List EvD, evs.length = es.length ∧ absL es = flat encE evs
  | [], _ => ⟨[], rfl, rfl⟩
  | x :: es, h => by
    obtain ⟨e, he⟩ := event_of (h x (by simp))
    obtain ⟨evs, h1, h2⟩ := events_of (es := es) fun y hy => h y (by simp [hy])
    exact ⟨e :: evs, by simp [h1], by simp [absL, flat, he, h2]⟩

theorem arg_of {H : Type} {n : Nat} {d : DataW H} (h : ShapeD Tryz.prog (n + 5) 25 d) (hw : (DataW.weightsEach Tryz.prog [25] [d]).all (· ≤ reachBytes) = true) :
    ∃ (l0 : Nat) (cxb cb : Bool) (s0 : List AVal) (evs : List EvD), evs.length * 64 ≤ 140737488351232 ∧ argV Tryz.prog 25 d = .agg [.fsl false cb l0 s0, .fsl false cxb evs.length (flat encE evs)] := by
  obtain ⟨fs, hu, hfs⟩ := Tryz.u25
  obtain ⟨ps, rfl, hl, hp⟩ := parts_of Tryz.u25 h
  rcases ps with _ | ⟨x0, _ | ⟨x1, _ | ⟨x2, r⟩⟩⟩ <;> simp only [List.length_cons, List.length_nil] at hl <;> try omega
  obtain ⟨c0, l0, s0, e0⟩ := slice_any Tryz.u22 (hp 0 22 x0 rfl rfl)
  have h1 := hp 1 23 x1 rfl rfl
  unfold ShapeD at h1
  rw [Tryz.u23] at h1
  have hwt : (x1.weights Tryz.prog 23).all (· ≤ reachBytes) = true := by
    simp only [DataW.weightsEach, DataW.weights, hu, hfs, List.append_nil, List.all_append, Bool.and_eq_true] at hw
    exact hw.2
  rcases h1 with rfl | ⟨es, sp, rfl, hes⟩
  · exact ⟨l0, true, c0, s0, [], by simp, by simp [argV, hu, absD, absL, e0, flat]⟩
  · obtain ⟨evs, g1, g2⟩ := events_of hes
    have hlen : evs.length * 64 ≤ 140737488351232 := by
      simp only [DataW.weights, Tryz.u23, Tryz.b34, List.all_cons, Bool.and_eq_true, decide_eq_true_eq] at hwt
      have h5 := hwt.1
      have h6 : reachBytes = 140737488351232 := rfl
      rw [h6] at h5
      have : es.length * 64 ≤ (es.length + sp.length) * 64 := Nat.mul_le_mul_right _ (Nat.le_add_right _ _)
      rw [g1]
      omega
    cases sp with
    | nil => exact ⟨l0, true, c0, s0, evs, hlen, by simp [argV, hu, absD, absL, e0, g1, g2]⟩
    | cons y r => exact ⟨l0, false, c0, s0, evs, hlen, by simp [argV, hu, absD, absL, e0, g1, g2]⟩

theorem counts_lifted (os : Os) (started : os.Started) (H : Type) (enc : TypeId × Value → H) :
    ReturnsInHanded {} Tryz.checked os 3 .any (Rows.prefixCountsSpec.pre6 enc Tryz.prog Tryz.f3 [] false) (Rows.prefixCountsSpec.post enc Tryz.prog Tryz.f3 false true false false) := by
  refine returnsInHanded_of_change_sized (C := Tryz.checked) Tryz.own started (by kernel_rfl) Tryz.func3
    (ChangeSpec.witness6 (enc := enc) (C := Tryz.checked) false ⟨#[], #[.agg #[.slice none 0 0, .slice none 0 0]], []⟩ 8 (by kernel_rfl) (by kernel_rfl) (by kernel_rfl) (by kernel_rfl)) ?_
  intro W base args ds gs before hval0 hW _ hsz _
  have hval : ∀ (j : Nat) t v, Tryz.f3.params[j]? = some t → args[j]? = some v → Value.okWide Tryz.prog W .any base t v := hval0
  have hW' := hW
  obtain ⟨p, q, hA0, hV, rfl, hfz, hnd⟩ := hW
  have hA : DataW.TrodAll enc Tryz.prog W 0 (fun _ => true) true Tryz.f3.params.toList args.toList ds p := hA0
  rw [Tryz.params3] at hA hval
  obtain ⟨v0, d0, rfl, rfl, h0⟩ := trodAll_one hA
  have hgs : gs = [] := (trodVars_none hV).1
  subst hgs
  obtain ⟨f0, s0⟩ := arg_fit (P := Tryz.prog) (n := 6) (fun _ => rfl) (by kernel_rfl) (hval 0 25 v0 rfl rfl) h0
  obtain ⟨l0, cxb, cb, c0, evs, hb, e0⟩ := arg_of (n := 1) s0 hsz
  rw [e0] at f0
  refine (ExCall.calls Tryz.noNG Tryz.follows (call3 l0 cxb cb c0 evs hb awakeP) (fun _ => rfl) (FitL.one f0)).mono fun e W' ⟨he, hb⟩ => ?_
  exact ⟨_, he, post_pure (tb := 4) Tryz.laidOut hW' rfl rfl (by kernel_rfl) (by kernel_rfl) (by kernel_rfl) hb⟩

theorem counts_holds : Rows.PrefixCountsSaid :=
  OpenClaim.holds_of_wide 3 Tryz.f3 rfl rfl rfl rfl rfl rfl rfl ⟨rfl, rfl, rfl, rfl, rfl⟩ rfl rfl rfl rfl rfl (by kernel_rfl) Tryz.func3 (by kernel_rfl)
    (of_decide_eq_true (by kernel_rfl)) (by unfold Func.isWrapper; first | (rw [if_pos (by decide +kernel)]; kernel_rfl) | (rw [if_neg (by decide +kernel)]; exact ⟨rfl, rfl⟩))
    (fun os started H enc _ => counts_lifted os started H enc)
#print axioms counts_holds
end Go.Proofs.YtllnomkinmhpfaaGreat
