/- PrefixCounts: what 'petrinetref29.Cutoffs' (4), 'prefix.Cutoffs' (7), 'prefix.Size' (5), 'petrinetref04.Same' (6) and the law (3) answer. -/
import Derived.Test.YtllnomkinmhpfaaGreatPnPcA
import Derived.IntWalk
namespace Go.Ax
open Go.Proofs
set_option linter.unusedVariables false
set_option linter.unusedSimpArgs false
set_option maxRecDepth 100000

/-- An event: its transition, its input and output conditions, whether it is a cut-off event. -/
structure EvD where
  a : Int
  c1 : Bool
  l1 : Nat
  s1 : List AVal
  c2 : Bool
  l2 : Nat
  s2 : List AVal
  cut : Bool

def encE (e : EvD) : List AVal := [.int .i64 e.a, .fsl false e.c1 e.l1 e.s1, .fsl false e.c2 e.l2 e.s2, .bool e.cut]

abbrev ints (xs : List Int) : List AVal := xs.map (AVal.int .i64)

theorem ints_snoc (xs : List Int) (x : Int) : ints (xs ++ [x]) = ints xs ++ [.int .i64 x] := by simp

/-- The places of the cut-off events, counted from i on. -/
def cutsFrom : Nat → List EvD → List Int
  | _, [] => []
  | i, e :: r => cond e.cut [(i : Int)] [] ++ cutsFrom (i + 1) r

/-- What the loops carry: no list yet, or a list of their own. -/
inductive Acc where
  | nil (c : Nat)
  | seen (c : Nat) (r5 : ABlk)
  | row (c ic vc lo : Nat) (oc : List Int) (rb r5 : ABlk)

def Acc.outs : Acc → List Int
  | .row _ _ _ _ oc _ _ => oc
  | _ => []

theorem wrapS {i : Nat} (h : i < 1000000000000000) : IntKind.i64.wrap (((i : Nat) : Int) + 1) = ((i + 1 : Nat) : Int) := by
  rw [IntWalk.i64_in _ ⟨by omega, by omega⟩]; omega

theorem foldU_outs (f : Nat → EvD → Acc → Acc ⊕ Empty) (hf : ∀ i e acc, match f i e acc with | .inl a' => a'.outs = acc.outs ++ cond e.cut [(i : Int)] [] | .inr y => False) :
    ∀ (evs : List EvD) (i : Nat) (acc : Acc), ∃ a', foldU f evs i acc = .inl a' ∧ a'.outs = acc.outs ++ cutsFrom i evs
  | [], i, acc => ⟨acc, rfl, by simp [cutsFrom]⟩
  | e :: r, i, acc => by
    have h := hf i e acc
    simp only [foldU, cutsFrom]
    cases hfe : f i e acc with
    | inr y => rw [hfe] at h; exact h.elim
    | inl a1 =>
      rw [hfe] at h
      obtain ⟨a', h1, h2⟩ := foldU_outs f hf r (i + 1) a1
      exact ⟨a', h1, by rw [h2, h, List.append_assoc]⟩

theorem freezeL_ints (f : AVal → List Id → Option (AVal × List Id)) (hf : ∀ z acc, f (.int .i64 z) acc = some (.int .i64 z, acc)) : ∀ (xs : List Int) (acc : List Id), freeze.freezeL f (ints xs) acc = some (ints xs, acc)
  | [], acc => rfl
  | x :: r, acc => by
    simp only [List.map_cons, freeze.freezeL, hf]
    rw [show List.map (AVal.int .i64) r = ints r from rfl, freezeL_ints f hf r acc]

theorem frz_ints {h : Heap} {cxb : Bool} {b : Id} {inc cur low : Nat} {data : Bool} {xs : List Int} (hl : lkI b h = some (.row inc cur low data (ints xs))) : frz false h (.sl cxb b inc cur 0 xs.length 1) = some (.fsl false cxb xs.length (ints xs), [b]) := by
  unfold frz
  have hr := rowAt_row hl 0 (xs.length * 1) (by simp)
  have e : (List.drop 0 (ints xs)).take (xs.length * 1) = ints xs := List.take_of_length_le (by simp)
  rw [e] at hr
  simp only [AVal.pure, cond_false, freeze, hr]
  rw [freezeL_ints _ (fun z acc => by simp [freeze, AVal.pure])]

section
variable (l0 : Nat) (cxb cb : Bool) (s0 : List AVal) (evs : List EvD) (hb : evs.length * 64 ≤ 140737488351232)

/-! ### the reference -/
def E4 (i : Nat) : Acc → Env
  | .row _ ic vc _ oc _ _ => [(3, .sl false (.r 4021) ic vc 0 oc.length 1), (4, .int .i64 ((i : Nat) : Int)), (1, .ptr (.v 1) 0 0 0)]
  | _ => [(3, .fsl false true 0 []), (4, .int .i64 ((i : Nat) : Int)), (1, .ptr (.v 1) 0 0 0)]

def S4 : Acc → St
  | .row c ic vc lo oc rb _ => ⟨c, 23, 0, [(.r 4021, .row ic vc lo true (ints oc)), (.r 4020, rb), (.v 1, .row 0 0 2 false [.fsl false cb l0 s0, .fsl false cxb evs.length (flat encE evs)])]⟩
  | .nil c => ⟨c, 23, 0, [(.v 1, .row 0 0 2 false [.fsl false cb l0 s0, .fsl false cxb evs.length (flat encE evs)])]⟩
  | .seen c _ => ⟨c, 23, 0, [(.v 1, .row 0 0 2 false [.fsl false cb l0 s0, .fsl false cxb evs.length (flat encE evs)])]⟩

def f4s (i : Nat) (e : EvD) (acc : Acc) : Acc ⊕ Empty :=
  match e.cut, acc with
  | false, acc => .inl acc
  | true, .nil c => .inl (.row (c + 2) (c + 1) (c + 1) 1 [(i : Int)] (.row c c 1 true [.int .i64 ((i : Nat) : Int)]) (.iter 0 [] 0))
  | true, .seen c r => .inl (.row (c + 2) (c + 1) (c + 1) 1 [(i : Int)] (.row c c 1 true [.int .i64 ((i : Nat) : Int)]) (.iter 0 [] 0))
  | true, .row c ic vc lo oc rb r5 => .inl (.row (c + 2) ic (c + 1) (Nat.min lo (oc.length * 1)) (oc ++ [(i : Int)]) (.row c c 1 true [.int .i64 ((i : Nat) : Int)]) r5)

def Inv (i : Nat) : Acc → Prop
  | .row _ _ _ _ oc _ _ => oc.length ≤ i
  | _ => True

theorem hd_of {i : Nat} {e : EvD} (he : evs[i]? = some e) : (flat encE evs).drop (i * 4) = .int .i64 e.a :: .fsl false e.c1 e.l1 e.s1 :: .fsl false e.c2 e.l2 e.s2 :: .bool e.cut :: flat encE (evs.drop (i + 1)) :=
  flat_drop (n := 4) (fun _ => rfl) evs i e he

include hb in
theorem step4 (i : Nat) (e : EvD) (acc : Acc) (he : evs[i]? = some e) (hv : Inv i acc) : match f4s i e acc with
    | .inl acc' => Inv (i + 1) acc' ∧ Run polP Tryz.prog ⟨4, 0, 23, none⟩ pC4x0 (E4 i acc) (S4 l0 cxb cb s0 evs acc) .norm (E4 (i + 1) acc') (S4 l0 cxb cb s0 evs acc')
    | .inr y => ∃ o e1 s, Run polP Tryz.prog ⟨4, 0, 23, none⟩ pC4x0 (E4 i acc) (S4 l0 cxb cb s0 evs acc) o e1 s ∧ o.isNorm = false ∧ False := by
  have hi : i < evs.length := (List.getElem?_eq_some_iff.1 he).1
  have hd := hd_of evs he
  have hw : IntKind.i64.wrap (((i : Nat) : Int) + 1) = ((i + 1 : Nat) : Int) := wrapS (by omega)
  obtain ⟨a, c1, l1, s1, c2, l2, s2, cut⟩ := e
  cases cut with
  | false =>
    cases acc with
    | nil c =>
      have h := r4Af_p0 i evs.length l0 l1 l2 c a cxb cb c1 c2 (flat encE evs) _ s0 s1 s2 hi hd
      rw [hw] at h
      exact ⟨trivial, h⟩
    | seen c r =>
      have h := r4Af_p0 i evs.length l0 l1 l2 c a cxb cb c1 c2 (flat encE evs) _ s0 s1 s2 hi hd
      rw [hw] at h
      exact ⟨trivial, h⟩
    | row c ic vc lo oc rb r5 =>
      have hoc : oc.length ≤ i := hv
      have h := r4Bf_p0 i evs.length l0 l1 l2 c a cxb cb c1 c2 (flat encE evs) _ s0 s1 s2 ic vc lo oc.length (ints oc) rb (by simp) (by omega) (by omega) hi hd
      rw [hw] at h
      exact ⟨Nat.le_succ_of_le hoc, h⟩
  | true =>
    cases acc with
    | nil c =>
      have h := r4At_p0 i evs.length l0 l1 l2 c a cxb cb c1 c2 (flat encE evs) _ s0 s1 s2 hi hd
      rw [hw] at h
      exact ⟨Nat.succ_le_succ (Nat.zero_le _), h⟩
    | seen c r =>
      have h := r4At_p0 i evs.length l0 l1 l2 c a cxb cb c1 c2 (flat encE evs) _ s0 s1 s2 hi hd
      rw [hw] at h
      exact ⟨Nat.succ_le_succ (Nat.zero_le _), h⟩
    | row c ic vc lo oc rb r5 =>
      have hoc : oc.length ≤ i := hv
      have h := r4Bt_p0 i evs.length l0 l1 l2 c a cxb cb c1 c2 (flat encE evs) _ s0 s1 s2 ic vc lo oc.length (ints oc) rb (by simp) (by omega) (by omega) hi hd
      rw [hw] at h
      refine ⟨by show (oc ++ [(i : Int)]).length ≤ i + 1; simp; exact hoc, ?_⟩
      have e1 : (oc ++ [(i : Int)]).length = oc.length + 1 := by simp
      simp only [E4, S4, e1, ints_snoc]
      exact h

theorem end4 (acc : Acc) : ∃ o e s, Run polP Tryz.prog ⟨4, 0, 23, none⟩ pC4x0 (E4 evs.length acc) (S4 l0 cxb cb s0 evs acc) o e s ∧ o.isNorm = false ∧ (o = .exit 0 ∧ e = [(3, (lk 3 (E4 0 acc)).getD .undef)] ∧ s = S4 l0 cxb cb s0 evs acc) := by
  cases acc with
  | nil c => exact ⟨_, _, _, r4Ax_p0 evs.length evs.length l0 0 0 c 0 cxb cb true true (flat encE evs) [] s0 [] [] (by omega), rfl, rfl, rfl, rfl⟩
  | seen c r => exact ⟨_, _, _, r4Ax_p0 evs.length evs.length l0 0 0 c 0 cxb cb true true (flat encE evs) [] s0 [] [] (by omega), rfl, rfl, rfl, rfl⟩
  | row c ic vc lo oc rb r5 =>
    exact ⟨_, _, _, r4Bx_p0 evs.length evs.length l0 0 0 c 0 cxb cb true true (flat encE evs) [] s0 [] [] ic vc lo oc.length (ints oc) rb (by omega), rfl, rfl, rfl, rfl⟩

include hb in
theorem call4 : ∃ co, ExCall polP Tryz.prog 4 [.agg [.fsl false cb l0 s0, .fsl false cxb evs.length (flat encE evs)]] (.fsl false co (cutsFrom 0 evs).length (ints (cutsFrom 0 evs))) := by
  have hl := loop_list (pol := polP) (P := Tryz.prog) (cx := ⟨4, 0, 23, none⟩) (c := sub [true, true, false, true, false] pB4) (a := pC4x0) (by kernel_rfl) (by kernel_rfl) E4 (fun _ => S4 l0 cxb cb s0 evs) Inv f4s
    (ee := fun acc p => p.1 = .exit 0 ∧ p.2.1 = [(3, (lk 3 (E4 0 acc)).getD .undef)] ∧ p.2.2 = S4 l0 cxb cb s0 evs acc) (er := fun _ _ => False) evs (fun i e acc he hv => by
      have h := step4 l0 cxb cb s0 evs hb i e acc he hv
      cases hf : f4s i e acc with
      | inl a1 => rw [hf] at h; exact h
      | inr y => exact y.elim)
    (fun acc _ => end4 l0 cxb cb s0 evs acc) (.nil 1) trivial
  obtain ⟨a', ha, ho⟩ := foldU_outs f4s (fun i e acc => by
    obtain ⟨a, c1, l1, s1, c2, l2, s2, cut⟩ := e
    cases cut <;> cases acc <;> simp [f4s, Acc.outs]) evs 0 (.nil 1)
  rw [ha] at hl
  obtain ⟨o, e, s, h1, rfl, rfl, rfl⟩ := hl
  have hbk := Run.blockExit (c := pC4x14) (a := sub [true, true, false, true, false] pB4) (id := 0) (by kernel_rfl) h1
  have hw := w4_p0 evs.length l0 cxb cb (flat encE evs) s0 _ _ hbk
  simp only [Acc.outs, List.nil_append] at ho
  cases a' with
  | nil c =>
    refine ⟨true, ?_⟩
    rw [← ho]
    exact ExCall.of_run (fn := Tryz.f4) (c := pC4x15) (ids := []) (vs := [.fsl false true 0 []]) (by kernel_rfl) (by kernel_rfl) (by kernel_rfl) hw rfl rfl rfl
  | seen c r =>
    refine ⟨true, ?_⟩
    rw [← ho]
    exact ExCall.of_run (fn := Tryz.f4) (c := pC4x15) (ids := []) (vs := [.fsl false true 0 []]) (by kernel_rfl) (by kernel_rfl) (by kernel_rfl) hw rfl rfl rfl
  | row c ic vc lo oc rb r5 =>
    refine ⟨false, ?_⟩
    rw [← ho]
    exact ExCall.of_run (fn := Tryz.f4) (c := pC4x15) (ids := [.r 4021]) (vs := [.sl false (.r 4021) ic vc 0 oc.length 1]) (by kernel_rfl) (by kernel_rfl) (by kernel_rfl) hw rfl rfl
      (frz_ints (h := [(.r 4021, .row ic vc lo true (ints oc)), (.r 4020, rb)]) rfl)

/-! ### the program's -/
def E7 (i : Nat) : Acc → Env
  | .row _ ic vc _ oc _ _ => [(3, .sl false (.r 7019) ic vc 0 oc.length 1), (9, .int .i64 ((i : Nat) : Int)), (8, .int .i64 ((evs.length : Nat) : Int)), (7, .fsl false cxb evs.length (flat encE evs))]
  | _ => [(3, .fsl false true 0 []), (9, .int .i64 ((i : Nat) : Int)), (8, .int .i64 ((evs.length : Nat) : Int)), (7, .fsl false cxb evs.length (flat encE evs))]

def S7 : Acc → St
  | .row c ic vc lo oc rb r5 => ⟨c, 22, 0, [(.r 7019, .row ic vc lo true (ints oc)), (.r 7018, rb), (.v 5, r5), (.v 1, .row 0 0 2 false [.fsl false cb l0 s0, .fsl false cxb evs.length (flat encE evs)])]⟩
  | .nil c => ⟨c, 22, 0, [(.v 1, .row 0 0 2 false [.fsl false cb l0 s0, .fsl false cxb evs.length (flat encE evs)])]⟩
  | .seen c r5 => ⟨c, 22, 0, [(.v 5, r5), (.v 1, .row 0 0 2 false [.fsl false cb l0 s0, .fsl false cxb evs.length (flat encE evs)])]⟩

def evRow (c : Nat) (e : EvD) : ABlk := .row c c 4 false [.int .i64 e.a, .fsl false e.c1 e.l1 e.s1, .fsl false e.c2 e.l2 e.s2, .bool e.cut]

def f7s (i : Nat) (e : EvD) (acc : Acc) : Acc ⊕ Empty :=
  match e.cut, acc with
  | false, .nil c => .inl (.seen (c + 1) (evRow c e))
  | false, .seen c _ => .inl (.seen (c + 1) (evRow c e))
  | false, .row c ic vc lo oc rb _ => .inl (.row (c + 1) ic vc lo oc rb (evRow c e))
  | true, .nil c => .inl (.row (c + 3) (c + 2) (c + 2) 1 [(i : Int)] (.row (c + 1) (c + 1) 1 true [.int .i64 ((i : Nat) : Int)]) (evRow c e))
  | true, .seen c _ => .inl (.row (c + 3) (c + 2) (c + 2) 1 [(i : Int)] (.row (c + 1) (c + 1) 1 true [.int .i64 ((i : Nat) : Int)]) (evRow c e))
  | true, .row c ic vc lo oc rb _ => .inl (.row (c + 3) ic (c + 2) (Nat.min lo (oc.length * 1)) (oc ++ [(i : Int)]) (.row (c + 1) (c + 1) 1 true [.int .i64 ((i : Nat) : Int)]) (evRow c e))

include hb in
theorem step7 (i : Nat) (e : EvD) (acc : Acc) (he : evs[i]? = some e) (hv : Inv i acc) : match f7s i e acc with
    | .inl acc' => Inv (i + 1) acc' ∧ Run polP Tryz.prog ⟨7, 0, 22, none⟩ pC7x0 (E7 cxb evs i acc) (S7 l0 cxb cb s0 evs acc) .norm (E7 cxb evs (i + 1) acc') (S7 l0 cxb cb s0 evs acc')
    | .inr y => ∃ o e1 s, Run polP Tryz.prog ⟨7, 0, 22, none⟩ pC7x0 (E7 cxb evs i acc) (S7 l0 cxb cb s0 evs acc) o e1 s ∧ o.isNorm = false ∧ False := by
  have hi : i < evs.length := (List.getElem?_eq_some_iff.1 he).1
  have hd := hd_of evs he
  have hw : IntKind.i64.wrap (((i : Nat) : Int) + 1) = ((i + 1 : Nat) : Int) := wrapS (by omega)
  obtain ⟨a, c1, l1, s1, c2, l2, s2, cut⟩ := e
  cases cut with
  | false =>
    cases acc with
    | nil c =>
      have h := r7Af_p0 i evs.length l0 l1 l2 c a cxb cb c1 c2 (flat encE evs) _ s0 s1 s2 hi hd
      rw [hw] at h
      exact ⟨trivial, h⟩
    | seen c r =>
      have h := r7Cf_p0 i evs.length l0 l1 l2 c a cxb cb c1 c2 (flat encE evs) _ s0 s1 s2 r hi hd
      rw [hw] at h
      exact ⟨trivial, h⟩
    | row c ic vc lo oc rb r5 =>
      have hoc : oc.length ≤ i := hv
      have h := r7Bf_p0 i evs.length l0 l1 l2 c a cxb cb c1 c2 (flat encE evs) _ s0 s1 s2 ic vc lo oc.length (ints oc) rb (by simp) (by omega) (by omega) r5 hi hd
      rw [hw] at h
      exact ⟨Nat.le_succ_of_le hoc, h⟩
  | true =>
    cases acc with
    | nil c =>
      have h := r7At_p0 i evs.length l0 l1 l2 c a cxb cb c1 c2 (flat encE evs) _ s0 s1 s2 hi hd
      rw [hw] at h
      exact ⟨Nat.succ_le_succ (Nat.zero_le _), h⟩
    | seen c r =>
      have h := r7Ct_p0 i evs.length l0 l1 l2 c a cxb cb c1 c2 (flat encE evs) _ s0 s1 s2 r hi hd
      rw [hw] at h
      exact ⟨Nat.succ_le_succ (Nat.zero_le _), h⟩
    | row c ic vc lo oc rb r5 =>
      have hoc : oc.length ≤ i := hv
      have h := r7Bt_p0 i evs.length l0 l1 l2 c a cxb cb c1 c2 (flat encE evs) _ s0 s1 s2 ic vc lo oc.length (ints oc) rb (by simp) (by omega) (by omega) r5 hi hd
      rw [hw] at h
      refine ⟨by show (oc ++ [(i : Int)]).length ≤ i + 1; simp; exact hoc, ?_⟩
      have e1 : (oc ++ [(i : Int)]).length = oc.length + 1 := by simp
      simp only [E7, S7, e1, ints_snoc]
      exact h

theorem end7 (acc : Acc) : ∃ o e s, Run polP Tryz.prog ⟨7, 0, 22, none⟩ pC7x0 (E7 cxb evs evs.length acc) (S7 l0 cxb cb s0 evs acc) o e s ∧ o.isNorm = false ∧ (o = .exit 0 ∧ e = [(3, (lk 3 (E7 cxb evs 0 acc)).getD .undef)] ∧ s = S7 l0 cxb cb s0 evs acc) := by
  cases acc with
  | nil c => exact ⟨_, _, _, r7Ax_p0 evs.length evs.length l0 0 0 c 0 cxb cb true true (flat encE evs) [] s0 [] [] (by omega), rfl, rfl, rfl, rfl⟩
  | seen c r => exact ⟨_, _, _, r7Cx_p0 evs.length evs.length l0 0 0 c 0 cxb cb true true (flat encE evs) [] s0 [] [] r (by omega), rfl, rfl, rfl, rfl⟩
  | row c ic vc lo oc rb r5 => exact ⟨_, _, _, r7Bx_p0 evs.length evs.length l0 0 0 c 0 cxb cb true true (flat encE evs) [] s0 [] [] ic vc lo oc.length (ints oc) rb r5 (by omega), rfl, rfl, rfl, rfl⟩

include hb in
theorem call7 : ∃ co, ExCall polP Tryz.prog 7 [.agg [.fsl false cb l0 s0, .fsl false cxb evs.length (flat encE evs)]] (.fsl false co (cutsFrom 0 evs).length (ints (cutsFrom 0 evs))) := by
  have hl := loop_list (pol := polP) (P := Tryz.prog) (cx := ⟨7, 0, 22, none⟩) (c := sub [true, true, false, true, false] pB7) (a := pC7x0) (by kernel_rfl) (by kernel_rfl) (E7 cxb evs) (fun _ => S7 l0 cxb cb s0 evs) Inv f7s
    (ee := fun acc p => p.1 = .exit 0 ∧ p.2.1 = [(3, (lk 3 (E7 cxb evs 0 acc)).getD .undef)] ∧ p.2.2 = S7 l0 cxb cb s0 evs acc) (er := fun _ _ => False) evs (fun i e acc he hv => by
      have h := step7 l0 cxb cb s0 evs hb i e acc he hv
      cases hf : f7s i e acc with
      | inl a1 => rw [hf] at h; exact h
      | inr y => exact y.elim)
    (fun acc _ => end7 l0 cxb cb s0 evs acc) (.nil 1) trivial
  obtain ⟨a', ha, ho⟩ := foldU_outs f7s (fun i e acc => by
    obtain ⟨a, c1, l1, s1, c2, l2, s2, cut⟩ := e
    cases cut <;> cases acc <;> simp [f7s, Acc.outs]) evs 0 (.nil 1)
  rw [ha] at hl
  obtain ⟨o, e, s, h1, rfl, rfl, rfl⟩ := hl
  have hbk := Run.blockExit (c := pC7x16) (a := sub [true, true, false, true, false] pB7) (id := 0) (by kernel_rfl) h1
  have hw := w7_p0 evs.length l0 cxb cb (flat encE evs) s0 _ _ hbk
  simp only [Acc.outs, List.nil_append] at ho
  cases a' with
  | nil c =>
    refine ⟨true, ?_⟩
    rw [← ho]
    exact ExCall.of_run (fn := Tryz.f7) (c := pC7x17) (ids := []) (vs := [.fsl false true 0 []]) (by kernel_rfl) (by kernel_rfl) (by kernel_rfl) hw rfl rfl rfl
  | seen c r =>
    refine ⟨true, ?_⟩
    rw [← ho]
    exact ExCall.of_run (fn := Tryz.f7) (c := pC7x17) (ids := []) (vs := [.fsl false true 0 []]) (by kernel_rfl) (by kernel_rfl) (by kernel_rfl) hw rfl rfl rfl
  | row c ic vc lo oc rb r5 =>
    refine ⟨false, ?_⟩
    rw [← ho]
    exact ExCall.of_run (fn := Tryz.f7) (c := pC7x17) (ids := [.r 7019]) (vs := [.sl false (.r 7019) ic vc 0 oc.length 1]) (by kernel_rfl) (by kernel_rfl) (by kernel_rfl) hw rfl rfl
      (frz_ints (h := [(.r 7019, .row ic vc lo true (ints oc)), (.r 7018, rb)]) rfl)
end

/-! ### equal lists -/
theorem call6 (ca cb : Bool) (xs : List Int) (hx : xs.length < 1000000000000000) : ExCall polP Tryz.prog 6 [.fsl false ca xs.length (ints xs), .fsl false cb xs.length (ints xs)] (.bool true) := by
  have hfl : ints xs = flat (fun x => [AVal.int .i64 x]) xs := by
    clear hx
    induction xs with
    | nil => rfl
    | cons x r ih => simp [flat, ← ih]
  have hl := loop_list (pol := polP) (P := Tryz.prog) (cx := ⟨6, 0, 26, none⟩) (c := sub [true, true, false, true, false] pB6) (a := pC6x0) (by kernel_rfl) (by kernel_rfl)
    (fun i (_ : Nat) => [(5, .int .i64 ((i : Nat) : Int)), (1, .fsl false cb xs.length (ints xs)), (0, .fsl false ca xs.length (ints xs)), (4, .bool false)]) (fun _ c => ⟨c, 26, 0, []⟩) (fun _ _ => True) (fun _ (_ : Int) c => (.inl (c + 9) : Nat ⊕ Empty))
    (ee := fun c p => p.1 = .exit 0 ∧ p.2.1 = [(4, .bool false)]) (er := fun _ _ => False) xs
    (fun i x c he _ => by
      have hi : i < xs.length := (List.getElem?_eq_some_iff.1 he).1
      have hd : (ints xs).drop (i * 1) = .int .i64 x :: flat (fun x => [AVal.int .i64 x]) (xs.drop (i + 1)) := by rw [hfl]; exact flat_drop (n := 1) (fun _ => rfl) xs i x he
      have h := r6_p0 i xs.length c x ca cb (ints xs) _ hi hd
      rw [wrapS (by omega)] at h
      exact ⟨trivial, h⟩)
    (fun c _ => ⟨_, _, _, r6x_p0 xs.length xs.length c 0 ca cb (ints xs) [] (by omega), rfl, rfl, rfl⟩) 0 trivial
  obtain ⟨a', ha⟩ : ∃ a', foldU (fun _ (_ : Int) c => (.inl (c + 9) : Nat ⊕ Empty)) xs 0 0 = .inl a' := by
    have : ∀ (ys : List Int) (i c : Nat), ∃ a', foldU (fun _ (_ : Int) c => (.inl (c + 9) : Nat ⊕ Empty)) ys i c = .inl a' := by
      intro ys
      induction ys with
      | nil => exact fun i c => ⟨c, rfl⟩
      | cons y r ih => exact fun i c => ih (i + 1) (c + 9)
    exact this xs 0 0
  rw [ha] at hl
  obtain ⟨o, e, s, h1, rfl, rfl⟩ := hl
  have hbk := Run.blockExit (c := pC6x14) (a := sub [true, true, false, true, false] pB6) (id := 0) (by kernel_rfl) h1
  have hw := w6_p0 xs.length ca cb (ints xs) _ hbk
  exact ExCall.of_run (fn := Tryz.f6) (c := pC6x15) (ids := []) (vs := [.bool true]) (by kernel_rfl) (by kernel_rfl) (by kernel_rfl) hw rfl rfl rfl

theorem cutsFrom_len : ∀ (evs : List EvD) (i : Nat), (cutsFrom i evs).length ≤ evs.length
  | [], i => Nat.le_refl _
  | e :: r, i => by
    have := cutsFrom_len r (i + 1)
    simp only [cutsFrom, List.length_append, List.length_cons]
    cases e.cut <;> simp <;> omega

/-- The law, given that its examples stand. -/
theorem call3 (l0 : Nat) (cxb cb : Bool) (s0 : List AVal) (evs : List EvD) (hb : evs.length * 64 ≤ 140737488351232) (h8 : ExCall polP Tryz.prog 8 [] (.bool true)) : ExCall polP Tryz.prog 3 [.agg [.fsl false cb l0 s0, .fsl false cxb evs.length (flat encE evs)]] (.bool true) := by
  obtain ⟨co, h4⟩ := call4 l0 cxb cb s0 evs hb
  obtain ⟨cp, h7⟩ := call7 l0 cxb cb s0 evs hb
  have hc := cutsFrom_len evs 0
  have h6 := call6 cp co (cutsFrom 0 evs) (by omega)
  have h5 : ExCall polP Tryz.prog 5 [.agg [.fsl false cb l0 s0, .fsl false cxb evs.length (flat encE evs)]] (.tuple [.int .i64 ((l0 : Nat) : Int), .int .i64 ((evs.length : Nat) : Int), .int .i64 (((cutsFrom 0 evs).length : Nat) : Int)]) :=
    ExCall.of_run (fn := Tryz.f5) (c := pC5x0) (ids := []) (vs := [.int .i64 ((l0 : Nat) : Int), .int .i64 ((evs.length : Nat) : Int), .int .i64 (((cutsFrom 0 evs).length : Nat) : Int)]) (by kernel_rfl) (by kernel_rfl) (by kernel_rfl)
      (w5_p0 evs.length l0 _ cxb cb cp (flat encE evs) s0 _ h7) rfl rfl rfl
  exact ExCall.of_run (fn := Tryz.f3) (c := pC3x0) (ids := []) (vs := [.bool true]) (by kernel_rfl) (by kernel_rfl) (by kernel_rfl) (w3_p0 evs.length l0 _ cxb cb co cp (flat encE evs) s0 _ h4 h7 h5 h6 h8) rfl rfl rfl
end Go.Ax
