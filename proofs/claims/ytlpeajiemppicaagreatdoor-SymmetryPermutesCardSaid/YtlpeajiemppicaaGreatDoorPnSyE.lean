/- SymmetryPermutes: what 'symmetry.valid' (17) and 'petrinetref18.Valid' (18) answer. -/
import Derived.Test.YtlpeajiemppicaaGreatDoorPnSyA
import Derived.Test.YtlpeajiemppicaaGreatDoorPnSyP
namespace Go.Ax
open Go.Proofs
set_option linter.unusedVariables false
set_option linter.unusedSimpArgs false
set_option maxRecDepth 100000

theorem frz_intl {h : Heap} {cxb : Bool} {b : Id} {inc cur low : Nat} {data : Bool} {xs : List Int} (hl : lkI b h = some (.row inc cur low data (intl xs))) : frz false h (.sl cxb b inc cur 0 xs.length 1) = some (.fsl false cxb xs.length (intl xs), [b]) := by
  have freezeL_ints : ∀ (f : AVal → List Id → Option (AVal × List Id)), (∀ z acc, f (.int .i64 z) acc = some (.int .i64 z, acc)) → ∀ (xs : List Int) (acc : List Id), freeze.freezeL f (intl xs) acc = some (intl xs, acc) := by
    intro f hf xs
    induction xs with
    | nil => exact fun acc => rfl
    | cons x r ih =>
      intro acc
      simp only [List.map_cons, freeze.freezeL, hf]
      rw [show List.map (AVal.int .i64) r = intl r from rfl, ih acc]
  unfold frz
  have hr := rowAt_row hl 0 (xs.length * 1) (by simp)
  have e : (List.drop 0 (intl xs)).take (xs.length * 1) = intl xs := List.take_of_length_le (by simp)
  rw [e] at hr
  simp only [AVal.pure, cond_false, freeze, hr]
  rw [freezeL_ints _ (fun z acc => by simp [freeze, AVal.pure])]

section
variable (cxb : Bool) (xs : List Int) (hx : xs.length ≤ 1000)

theorem call36 : ExCallS polY Tryz.prog 36 [.fsl false cxb xs.length (intl xs)] ⟨0, 20, 0, []⟩ (.func (.func 57) [] [.ptr (.v 21) 0 0 0]) ⟨1, 24, 0, [(.v 21, .row 0 0 1 false [.fsl false cxb xs.length (intl xs)])]⟩ :=
  ExCallS.of_run (fn := Tryz.f36) (c := yC36x0) (vs := [.func (.func 57) [] [.ptr (.v 21) 0 0 0]]) (by kernel_rfl) (by kernel_rfl) (by kernel_rfl) (w36_p0 cxb xs.length (intl xs)) rfl rfl rfl rfl

/-- What the range over a list carries: no list yet, or one of its own. -/
inductive AccY where
  | nil (c : Nat)
  | row (c ic vc lo : Nat) (oc : List Int) (rb : ABlk)

def AccY.outs : AccY → List Int
  | .row _ _ _ _ oc _ => oc
  | _ => []

def E57 (i : Nat) (_ : AccY) : Env := [(7, .int .i64 ((i : Nat) : Int)), (6, .int .i64 ((xs.length : Nat) : Int)), (5, .fsl false cxb xs.length (intl xs)), (0, .yld (.v 45) 2)]

noncomputable def S57 : AccY → St
  | .nil c => ⟨c, 67, 0, [(.v 45, yLr cxb xs.length (intl xs)), (.v 40, .row 1 1 1 false [.fsl false true 0 []]), (.v 21, .row 0 0 1 false [.fsl false cxb xs.length (intl xs)])]⟩
  | .row c ic vc lo oc rb => ⟨c, 67, 0, [(.r 77011, .row ic vc lo true (intl oc)), (.r 77010, rb), (.v 45, yLr cxb xs.length (intl xs)), (.v 40, .row 1 1 1 false [.sl false (.r 77011) ic vc 0 oc.length 1]), (.v 21, .row 0 0 1 false [.fsl false cxb xs.length (intl xs)])]⟩

def f57s (_ : Nat) (x : Int) : AccY → AccY ⊕ Empty
  | .nil c => .inl (.row (c + 2) (c + 1) (c + 1) 1 [x] (.row c c 1 true [.int .i64 x]))
  | .row c ic vc lo oc rb => .inl (.row (c + 2) ic (c + 1) (Nat.min lo (oc.length * 1)) (oc ++ [x]) (.row c c 1 true [.int .i64 x]))

theorem foldU_57 : ∀ (ys : List Int) (i : Nat) (acc : AccY), ∃ a', foldU f57s ys i acc = .inl a' ∧ a'.outs = acc.outs ++ ys ∧ (∀ c, a' = .nil c → ys = [])
  | [], i, acc => ⟨acc, rfl, by simp, fun _ _ => rfl⟩
  | y :: r, i, acc => by
    obtain ⟨b, hb, ho, hnn⟩ : ∃ b, f57s i y acc = .inl b ∧ b.outs = acc.outs ++ [y] ∧ ∀ c, b ≠ .nil c := by
      cases acc with
      | nil c => exact ⟨_, rfl, rfl, fun c h => by cases h⟩
      | row c ic vc lo oc rb => exact ⟨_, rfl, rfl, fun c h => by cases h⟩
    obtain ⟨a', h1, h2, h3⟩ := foldU_57 r (i + 1) b
    refine ⟨a', by simp only [foldU, hb, h1], by rw [h2, ho, List.append_assoc]; rfl, fun c hc => ?_⟩
    have hr := h3 c hc
    subst hr
    simp only [foldU, Sum.inl.injEq] at h1
    exact absurd (h1.trans hc) (hnn c)

include hx in
theorem step57 (i : Nat) (x : Int) (acc : AccY) (he : xs[i]? = some x) (hv : acc.outs.length ≤ i) : match f57s i x acc with
    | .inl acc' => acc'.outs.length ≤ i + 1 ∧ Run polY Tryz.prog ⟨57, 51, 16, none⟩ yC57x0 (E57 cxb xs i acc) (S57 cxb xs acc) .norm (E57 cxb xs (i + 1) acc') (S57 cxb xs acc')
    | .inr y => ∃ o e1 s, Run polY Tryz.prog ⟨57, 51, 16, none⟩ yC57x0 (E57 cxb xs i acc) (S57 cxb xs acc) o e1 s ∧ o.isNorm = false ∧ False := by
  have hi : i < xs.length := (List.getElem?_eq_some_iff.1 he).1
  have hd := intl_drop xs i x he
  have hw : IntKind.i64.wrap (((i : Nat) : Int) + 1) = ((i + 1 : Nat) : Int) := wrapY (by omega)
  cases acc with
  | nil c =>
    have h := r57A_p0 cxb xs.length (intl xs) c x i _ hi hd
    rw [hw] at h
    exact ⟨Nat.succ_le_succ (Nat.zero_le _), h⟩
  | row c ic vc lo oc rb =>
    have hoc : oc.length ≤ i := hv
    have h := r57B_p0 cxb xs.length (intl xs) ic vc lo oc.length (intl oc) rb (by simp) (by omega) (by omega) c x i _ hi hd
    rw [hw] at h
    refine ⟨by simp only [AccY.outs, List.length_append, List.length_cons, List.length_nil]; omega, ?_⟩
    have e1 : intl oc ++ [AVal.int .i64 x] = intl (oc ++ [x]) := by simp
    rw [e1] at h
    simpa [E57, S57] using h

theorem end57 (acc : AccY) : ∃ o e s, Run polY Tryz.prog ⟨57, 51, 16, none⟩ yC57x0 (E57 cxb xs xs.length acc) (S57 cxb xs acc) o e s ∧ o.isNorm = false ∧ (o = .exit 0 ∧ e = [] ∧ s = S57 cxb xs acc) := by
  cases acc with
  | nil c => exact ⟨_, _, _, r57xA_p0 cxb xs.length (intl xs) c xs.length (by omega), rfl, rfl, rfl, rfl⟩
  | row c ic vc lo oc rb => exact ⟨_, _, _, r57xB_p0 cxb xs.length (intl xs) ic vc lo oc.length (intl oc) rb c xs.length (by omega), rfl, rfl, rfl, rfl⟩

/-- The list that a range gathers; the state behind it. -/
def outV : AccY → AVal
  | .nil _ => .fsl false true 0 []
  | .row _ ic vc _ oc _ => .sl false (.r 77011) ic vc 0 oc.length 1
def SG (nx : Nat) : AccY → St
  | .nil c => ⟨c, nx, 0, [(.v 21, .row 0 0 1 false [.fsl false cxb xs.length (intl xs)])]⟩
  | .row c ic vc lo oc rb => ⟨c, nx, 0, [(.r 77011, .row ic vc lo true (intl oc)), (.r 77010, rb), (.v 21, .row 0 0 1 false [.fsl false cxb xs.length (intl xs)])]⟩

include hx in
theorem call77 : ∃ acc, acc.outs = xs ∧ (∀ c, acc = .nil c → xs = []) ∧ ExCallS polY Tryz.prog 77 [.fsl false true 0 [], .func (.func 57) [] [.ptr (.v 21) 0 0 0]] ⟨1, 38, 0, [(.v 21, .row 0 0 1 false [.fsl false cxb xs.length (intl xs)])]⟩ (outV acc) (SG cxb xs 38 acc) := by
  have hl := loop_list (pol := polY) (P := Tryz.prog) (cx := ⟨57, 51, 16, none⟩) (c := sub [true, false] yB57) (a := yC57x0) (by kernel_rfl) (by kernel_rfl) (E57 cxb xs) (fun _ => S57 cxb xs) (fun i acc => acc.outs.length ≤ i) f57s
    (ee := fun acc p => p.1 = .exit 0 ∧ p.2.1 = [] ∧ p.2.2 = S57 cxb xs acc) (er := fun _ _ => False) xs (fun i x acc he hv => by
      have h := step57 cxb xs hx i x acc he hv
      cases hf : f57s i x acc with
      | inl a1 => rw [hf] at h; exact h
      | inr y => exact y.elim)
    (fun acc _ => end57 cxb xs acc) (.nil 3) (Nat.zero_le _)
  obtain ⟨a', ha, ho, hnil⟩ := foldU_57 xs 0 (.nil 3)
  rw [ha] at hl
  obtain ⟨o, e, s, h1, rfl, rfl, rfl⟩ := hl
  have hbk := Run.blockExit (c := yC57x16) (a := sub [true, false] yB57) (id := 0) (by kernel_rfl) h1
  have hw := w57_p0 cxb xs.length (intl xs) _ hbk
  refine ⟨a', by simpa [AccY.outs] using ho, hnil, ?_⟩
  cases a' with
  | nil c =>
    have hc : ExCallS polY Tryz.prog 57 [.yld (.v 45) 2, .ptr (.v 21) 0 0 0] ⟨3, 51, 0, [(.v 45, yLr cxb xs.length (intl xs)), (.v 40, .row 1 1 1 false [.fsl false true 0 []]), (.v 21, .row 0 0 1 false [.fsl false cxb xs.length (intl xs)])]⟩ (.tuple [])
        ⟨c, 51, 0, [(.v 45, yLr cxb xs.length (intl xs)), (.v 40, .row 1 1 1 false [.fsl false true 0 []]), (.v 21, .row 0 0 1 false [.fsl false cxb xs.length (intl xs)])]⟩ :=
      ExCallS.of_run (fn := Tryz.f57) (c := yC57x17) (vs := []) (by kernel_rfl) (by kernel_rfl) (by kernel_rfl) hw rfl rfl rfl rfl
    have hr := RunX.range (pol := polY) (P := Tryz.prog) (cx := ⟨77, 38, 13, none⟩) (c := yC77x4) (x := .tmp 6) (params := #[7]) (assign := yC77x2) (body := yC77x3) (by kernel_rfl)
      (env := [(6, .func (.func 57) [] [.ptr (.v 21) 0 0 0]), (4, .fsl false true 0 []), (2, .ptr (.v 40) 1 1 0), (0, .fsl false true 0 []), (1, .func (.func 57) [] [.ptr (.v 21) 0 0 0])])
      (st := ⟨2, 51, 0, [(.v 40, .row 1 1 1 false [.fsl false true 0 []]), (.v 21, .row 0 0 1 false [.fsl false cxb xs.length (intl xs)])]⟩) (gf := 57) (first := []) (captured := [.ptr (.v 21) 0 0 0]) rfl (p0 := 7) (ps := []) rfl rfl hc rfl
    have hb := RunX.block (c := yC77x5) (a := yC77x4) (id := 0) (by kernel_rfl) hr
    have h3 := Run.seqX (c := sub [true] yB77) (a := sub [true, false] yB77) (b := yC77x7) (by kernel_rfl) (RunX.seq (c := sub [true, false] yB77) (a := yC77x1) (b := yC77x5) (by kernel_rfl) (x77_x3 cxb xs.length (intl xs)) hb) (z77A_p0 cxb xs.length (intl xs) c)
    have h4 := Run.seqX (c := yB77) (a := yC77x0) (b := sub [true] yB77) (by kernel_rfl) (x77_x2 cxb xs.length (intl xs)) h3
    exact ExCallS.of_run (fn := Tryz.f77) (c := yB77) (vs := [.fsl false true 0 []]) (by kernel_rfl) (by kernel_rfl) (by kernel_rfl) h4 rfl rfl rfl rfl
  | row c ic vc lo oc rb =>
    have hc : ExCallS polY Tryz.prog 57 [.yld (.v 45) 2, .ptr (.v 21) 0 0 0] ⟨3, 51, 0, [(.v 45, yLr cxb xs.length (intl xs)), (.v 40, .row 1 1 1 false [.fsl false true 0 []]), (.v 21, .row 0 0 1 false [.fsl false cxb xs.length (intl xs)])]⟩ (.tuple [])
        ⟨c, 51, 0, [(.r 77011, .row ic vc lo true (intl oc)), (.r 77010, rb), (.v 45, yLr cxb xs.length (intl xs)), (.v 40, .row 1 1 1 false [.sl false (.r 77011) ic vc 0 oc.length 1]), (.v 21, .row 0 0 1 false [.fsl false cxb xs.length (intl xs)])]⟩ :=
      ExCallS.of_run (fn := Tryz.f57) (c := yC57x17) (vs := []) (by kernel_rfl) (by kernel_rfl) (by kernel_rfl) hw rfl rfl rfl rfl
    have hr := RunX.range (pol := polY) (P := Tryz.prog) (cx := ⟨77, 38, 13, none⟩) (c := yC77x4) (x := .tmp 6) (params := #[7]) (assign := yC77x2) (body := yC77x3) (by kernel_rfl)
      (env := [(6, .func (.func 57) [] [.ptr (.v 21) 0 0 0]), (4, .fsl false true 0 []), (2, .ptr (.v 40) 1 1 0), (0, .fsl false true 0 []), (1, .func (.func 57) [] [.ptr (.v 21) 0 0 0])])
      (st := ⟨2, 51, 0, [(.v 40, .row 1 1 1 false [.fsl false true 0 []]), (.v 21, .row 0 0 1 false [.fsl false cxb xs.length (intl xs)])]⟩) (gf := 57) (first := []) (captured := [.ptr (.v 21) 0 0 0]) rfl (p0 := 7) (ps := []) rfl rfl hc rfl
    have hb := RunX.block (c := yC77x5) (a := yC77x4) (id := 0) (by kernel_rfl) hr
    have h3 := Run.seqX (c := sub [true] yB77) (a := sub [true, false] yB77) (b := yC77x7) (by kernel_rfl) (RunX.seq (c := sub [true, false] yB77) (a := yC77x1) (b := yC77x5) (by kernel_rfl) (x77_x3 cxb xs.length (intl xs)) hb) (z77B_p0 cxb xs.length (intl xs) ic vc lo oc.length (intl oc) rb c)
    have h4 := Run.seqX (c := yB77) (a := yC77x0) (b := sub [true] yB77) (by kernel_rfl) (x77_x2 cxb xs.length (intl xs)) h3
    exact ExCallS.of_run (fn := Tryz.f77) (c := yB77) (vs := [.sl false (.r 77011) ic vc 0 oc.length 1]) (by kernel_rfl) (by kernel_rfl) (by kernel_rfl) h4 rfl rfl rfl rfl
end
end Go.Ax

namespace Go.Ax
open Go.Proofs
set_option linter.unusedVariables false
set_option linter.unusedSimpArgs false
set_option maxRecDepth 100000

section
variable (cxb : Bool) (xs : List Int) (hx : xs.length ≤ 1000)

include hx in
/-- Sorted: no list for no numbers, else a sorted one. -/
theorem call35 : (∃ c, xs = [] ∧ ExCallS polY Tryz.prog 35 [.func (.func 57) [] [.ptr (.v 21) 0 0 0]] ⟨1, 24, 0, [(.v 21, .row 0 0 1 false [.fsl false cxb xs.length (intl xs)])]⟩ (.fsl false true 0 []) ⟨c, 24, 0, [(.v 21, .row 0 0 1 false [.fsl false cxb xs.length (intl xs)])]⟩)
    ∨ (∃ c ic vc lo rb, ExCallS polY Tryz.prog 35 [.func (.func 57) [] [.ptr (.v 21) 0 0 0]] ⟨1, 24, 0, [(.v 21, .row 0 0 1 false [.fsl false cxb xs.length (intl xs)])]⟩ (.sl false (.r 77011) ic vc 0 xs.length 1)
      ⟨c, 24, 0, [(.r 77011, .row ic vc lo true (intl (isort xs))), (.r 77010, rb), (.v 21, .row 0 0 1 false [.fsl false cxb xs.length (intl xs)])]⟩) := by
  obtain ⟨acc, ho, hn, h77⟩ := call77 cxb xs hx
  cases acc with
  | nil c =>
    left
    refine ⟨c, hn c rfl, ?_⟩
    have h55 : ExCallS polY Tryz.prog 55 [.func (.func 57) [] [.ptr (.v 21) 0 0 0]] ⟨1, 33, 0, [(.v 21, .row 0 0 1 false [.fsl false cxb xs.length (intl xs)])]⟩ (.fsl false true 0 []) ⟨c, 33, 0, [(.v 21, .row 0 0 1 false [.fsl false cxb xs.length (intl xs)])]⟩ :=
      ExCallS.of_run (fn := Tryz.f55) (c := yC55x0) (vs := [.fsl false true 0 []]) (by kernel_rfl) (by kernel_rfl) (by kernel_rfl) (w55A_p0 cxb xs.length (intl xs) c h77) rfl rfl rfl rfl
    exact ExCallS.of_run (fn := Tryz.f35) (c := yC35x0) (vs := [.fsl false true 0 []]) (by kernel_rfl) (by kernel_rfl) (by kernel_rfl) (w35A_p0 cxb xs.length (intl xs) c h55) rfl rfl rfl rfl
  | row c ic vc lo oc rb =>
    right
    have e : oc = xs := ho
    subst e
    have h55 : ExCallS polY Tryz.prog 55 [.func (.func 57) [] [.ptr (.v 21) 0 0 0]] ⟨1, 33, 0, [(.v 21, .row 0 0 1 false [.fsl false cxb oc.length (intl oc)])]⟩ (.sl false (.r 77011) ic vc 0 oc.length 1)
        ⟨c, 33, 0, [(.r 77011, .row ic vc lo true (intl oc)), (.r 77010, rb), (.v 21, .row 0 0 1 false [.fsl false cxb oc.length (intl oc)])]⟩ :=
      ExCallS.of_run (fn := Tryz.f55) (c := yC55x0) (vs := [.sl false (.r 77011) ic vc 0 oc.length 1]) (by kernel_rfl) (by kernel_rfl) (by kernel_rfl) (w55B_p0 cxb oc.length (intl oc) ic vc lo oc.length (intl oc) rb c h77) rfl rfl rfl rfl
    rcases Nat.eq_zero_or_pos oc.length with h0 | h0
    · have e0 : oc = [] := List.length_eq_zero_iff.1 h0
      subst e0
      exact ⟨c, ic, vc, lo, rb, ExCallS.of_run (fn := Tryz.f35) (c := yC35x0) (vs := [.sl false (.r 77011) ic vc 0 0 1]) (by kernel_rfl) (by kernel_rfl) (by kernel_rfl) (w35B_p0 cxb 0 [] ic vc lo 0 [] rb c h55 [] lo rfl) rfl rfl rfl rfl⟩
    · have hs := asort_sl (st := ⟨c, 33, 0, [(.r 77011, .row ic vc lo true (intl oc)), (.r 77010, rb), (.v 21, .row 0 0 1 false [.fsl false cxb oc.length (intl oc)])]⟩) (cxb := false) (b := .r 77011) (inc := ic) (cur := vc) (low := lo) (data := true) (zs := oc) rfl h0 (by omega)
      exact ⟨c, ic, vc, _, rb, ExCallS.of_run (fn := Tryz.f35) (c := yC35x0) (vs := [.sl false (.r 77011) ic vc 0 oc.length 1]) (by kernel_rfl) (by kernel_rfl) (by kernel_rfl)
        (w35B_p0 cxb oc.length (intl oc) ic vc lo oc.length (intl oc) rb c h55 (intl (isort oc)) _ hs) rfl rfl rfl rfl⟩

/-- Number by number, until one differs from its place. -/
def raF (i : Nat) (x : Int) (_ : Unit) : Unit ⊕ Unit := cond (x == ((i : Nat) : Int)) (.inl ()) (.inr ())
theorem foldU_raF : ∀ (l : List Int) (i : Nat), foldU raF l i () = cond (rangeFrom i l) (.inl ()) (.inr ())
  | [], i => rfl
  | x :: r, i => by
    simp only [foldU, rangeFrom, raF]
    cases h : (x == ((i : Nat) : Int)) with
    | true => simp only [cond_true, Bool.true_and, foldU_raF r (i + 1)]
    | false => simp

include hx in
theorem call17 : ExCall polY Tryz.prog 17 [.fsl false cxb xs.length (intl xs)] (.bool (hasAll xs)) := by
  rw [← valid_eq]
  rcases call35 cxb xs hx with ⟨c, e, h35⟩ | ⟨c, ic, vc, lo, rb, h35⟩
  · subst e
    have hl := Run.blockExit (c := yC17x7) (a := sub [true, true, false, true, false] yB17) (id := 0) (by kernel_rfl) (Run.loopOut (a := yC17x0) (by kernel_rfl) rfl (r17xA_p0 cxb 0 [] c))
    exact ExCall.of_run (fn := Tryz.f17) (c := yC17x8) (ids := []) (vs := [.bool true]) (by kernel_rfl) (by kernel_rfl) (by kernel_rfl) (w17A_p0 cxb 0 [] c (call36 cxb []) h35 hl) rfl rfl rfl
  · have hl := loop_list (pol := polY) (P := Tryz.prog) (cx := ⟨17, 0, 20, none⟩) (c := sub [true, true, false, true, false] yB17) (a := yC17x0) (by kernel_rfl) (by kernel_rfl)
      (fun i (_ : Unit) => [(11, .int .i64 ((i : Nat) : Int)), (10, .int .i64 ((xs.length : Nat) : Int)), (9, .sl false (.r 77011) ic vc 0 xs.length 1), (2, .bool false)])
      (fun _ _ => ⟨c, 24, 0, [(.r 77011, .row ic vc lo true (intl (isort xs))), (.r 77010, rb), (.v 21, .row 0 0 1 false [.fsl false cxb xs.length (intl xs)])]⟩) (fun _ _ => True) raF
      (ee := fun _ p => p.1 = .exit 0 ∧ p.2.1 = []) (er := fun _ p => p.1 = .ret ∧ p.2.1 = [(2, .bool false)]) (isort xs)
      (fun i x acc he _ => by
        have hi : i < xs.length := by rw [← isort_length xs]; exact (List.getElem?_eq_some_iff.1 he).1
        have hd : ((intl (isort xs)).drop (0 + i * 1)).take 1 = [.int .i64 x] := by rw [Nat.zero_add, intl_drop _ i x he]; rfl
        cases hxi : (x == ((i : Nat) : Int)) with
        | true =>
          have hf : raF i x acc = .inl () := by simp only [raF, hxi, cond_true]
          rw [hf]
          have h := r17_p0 cxb xs.length (intl xs) ic vc lo xs.length (intl xs) rb lo (intl (isort xs)) c i x hi hd (by rw [bne, hxi]; rfl)
          rw [wrapY (by omega)] at h
          exact ⟨trivial, h⟩
        | false =>
          have hf : raF i x acc = .inr () := by simp only [raF, hxi, cond_false]
          rw [hf]
          exact ⟨_, _, _, r17_p1 cxb xs.length (intl xs) ic vc lo xs.length (intl xs) rb lo (intl (isort xs)) c i x hi hd (by rw [bne, hxi]; rfl), rfl, rfl, rfl⟩)
      (fun acc _ => ⟨_, _, _, r17x_p0 cxb xs.length (intl xs) ic vc lo xs.length (intl xs) rb lo (intl (isort xs)) c (isort xs).length (by rw [isort_length]; omega), rfl, rfl, rfl⟩) () trivial
    rw [foldU_raF] at hl
    cases hr : rangeFrom 0 (isort xs) with
    | true =>
      rw [hr] at hl
      obtain ⟨o, e, s, h1, rfl, rfl⟩ := hl
      have hbk := Run.blockExit (c := yC17x7) (a := sub [true, true, false, true, false] yB17) (id := 0) (by kernel_rfl) h1
      exact ExCall.of_run (fn := Tryz.f17) (c := yC17x8) (ids := []) (vs := [.bool true]) (by kernel_rfl) (by kernel_rfl) (by kernel_rfl) (w17B_p0 cxb xs.length (intl xs) ic vc lo xs.length (intl xs) rb lo (intl (isort xs)) c (call36 cxb xs) h35 _ hbk) rfl rfl rfl
    | false =>
      rw [hr] at hl
      obtain ⟨o, e, s, h1, rfl, rfl⟩ := hl
      have hbk := Run.block (c := yC17x7) (a := sub [true, true, false, true, false] yB17) (id := 0) (by kernel_rfl) rfl h1
      exact ExCall.of_run (fn := Tryz.f17) (c := yC17x8) (ids := []) (vs := [.bool false]) (by kernel_rfl) (by kernel_rfl) (by kernel_rfl) (w17C_p0 cxb xs.length (intl xs) ic vc lo xs.length (intl xs) rb lo (intl (isort xs)) c (call36 cxb xs) h35 _ hbk) rfl rfl rfl

/-! ### the reference -/
def orF (v : Nat) (_ : Nat) (x : Int) (b : Bool) : Bool ⊕ Empty := .inl (b || x == ((v : Nat) : Int))
theorem foldU_orF (v : Nat) : ∀ (l : List Int) (i : Nat) (b : Bool), foldU (orF v) l i b = .inl (b || l.any fun x => x == ((v : Nat) : Int))
  | [], i, b => by simp [foldU]
  | x :: r, i, b => by simp only [foldU, orF, foldU_orF v r (i + 1), List.any_cons, Bool.or_assoc]

include hx in
theorem inner18 (v : Nat) : Run polY Tryz.prog ⟨18, 0, 29, none⟩ yC18x10 [(5, .int .i64 0), (4, .bool false), (3, .int .i64 ((v : Nat) : Int)), (0, .fsl false cxb xs.length (intl xs)), (2, .bool false)] ⟨0, 29, 0, []⟩ .norm
    [(4, .bool (xs.any fun x => x == ((v : Nat) : Int))), (3, .int .i64 ((v : Nat) : Int)), (0, .fsl false cxb xs.length (intl xs)), (2, .bool false)] ⟨0, 29, 0, []⟩ := by
  have hl := loop_list (pol := polY) (P := Tryz.prog) (cx := ⟨18, 0, 29, none⟩) (c := sub [true, false, true, false, false, true, false, false, true, false, true, false] yB18) (a := yC18x0) (by kernel_rfl) (by kernel_rfl)
    (fun i (b : Bool) => [(5, .int .i64 ((i : Nat) : Int)), (4, .bool b), (3, .int .i64 ((v : Nat) : Int)), (0, .fsl false cxb xs.length (intl xs)), (2, .bool false)])
    (fun _ _ => ⟨0, 29, 0, []⟩) (fun _ _ => True) (orF v)
    (ee := fun b p => p.1 = .exit 2 ∧ p.2.1 = [(4, .bool b), (3, .int .i64 ((v : Nat) : Int)), (0, .fsl false cxb xs.length (intl xs)), (2, .bool false)] ∧ p.2.2 = ⟨0, 29, 0, []⟩) (er := fun _ _ => False) xs
    (fun i x b he _ => by
      have hi : i < xs.length := (List.getElem?_eq_some_iff.1 he).1
      have hd := intl_drop xs i x he
      have hw : IntKind.i64.wrap (((i : Nat) : Int) + 1) = ((i + 1 : Nat) : Int) := wrapY (by omega)
      refine ⟨trivial, ?_⟩
      cases b with
      | true =>
        have h := r18it_p0 cxb xs.length (intl xs) i v x _ hi hd
        rw [hw] at h
        exact h
      | false =>
        cases hxv : (x == ((v : Nat) : Int)) with
        | false =>
          have h := r18if_p0 cxb xs.length (intl xs) i v x _ hi hd hxv
          rw [hw] at h
          exact h
        | true =>
          have h := r18if_p1 cxb xs.length (intl xs) i v x _ hi hd hxv
          rw [hw] at h
          exact h)
    (fun b _ => by
      cases b with
      | true => exact ⟨_, _, _, r18ixt_p0 cxb xs.length (intl xs) xs.length v (by omega), rfl, rfl, rfl, rfl⟩
      | false => exact ⟨_, _, _, r18ixf_p0 cxb xs.length (intl xs) xs.length v (by omega), rfl, rfl, rfl, rfl⟩) false trivial
  rw [foldU_orF] at hl
  obtain ⟨o, e, s, h1, rfl, rfl, rfl⟩ := hl
  exact Run.blockExit (c := yC18x10) (a := sub [true, false, true, false, false, true, false, false, true, false, true, false] yB18) (id := 2) (by kernel_rfl) h1

def alF (xs : List Int) (v : Nat) (_ : Int) (_ : Unit) : Unit ⊕ Unit := cond (xs.any fun x => x == ((v : Nat) : Int)) (.inl ()) (.inr ())
theorem foldU_alF (xs : List Int) : ∀ (l : List Int) (i : Nat), foldU (alF xs) l i () = cond ((List.range' i l.length).all fun v => xs.any fun x => x == ((v : Nat) : Int)) (.inl ()) (.inr ())
  | [], i => rfl
  | y :: r, i => by
    simp only [foldU, alF, List.length_cons, List.range'_succ, List.all_cons]
    cases h : (xs.any fun x => x == ((i : Nat) : Int)) with
    | true => simp only [cond_true, Bool.true_and, foldU_alF xs r (i + 1)]
    | false => simp

include hx in
theorem call18 : ExCall polY Tryz.prog 18 [.fsl false cxb xs.length (intl xs)] (.bool (hasAll xs)) := by
  have hl := loop_list (pol := polY) (P := Tryz.prog) (cx := ⟨18, 0, 29, none⟩) (c := sub [true, false, true, false] yB18) (a := yC18x11) (by kernel_rfl) (by kernel_rfl)
    (fun v (_ : Unit) => [(3, .int .i64 ((v : Nat) : Int)), (0, .fsl false cxb xs.length (intl xs)), (2, .bool false)])
    (fun _ _ => ⟨0, 29, 0, []⟩) (fun _ _ => True) (alF xs)
    (ee := fun _ p => p.1 = .exit 0 ∧ p.2.1 = []) (er := fun _ p => p.1 = .ret ∧ p.2.1 = [(2, .bool false)]) xs
    (fun v x acc he _ => by
      have hi : v < xs.length := (List.getElem?_eq_some_iff.1 he).1
      have hw : IntKind.i64.wrap (((v : Nat) : Int) + 1) = ((v + 1 : Nat) : Int) := wrapY (by omega)
      have hin := inner18 cxb xs hx v
      cases hb : (xs.any fun x => x == ((v : Nat) : Int)) with
      | true =>
        have hf : alF xs v x acc = .inl () := by simp only [alF, hb, cond_true]
        rw [hf]
        rw [hb] at hin
        have h := r18ot_p0 cxb xs.length (intl xs) v hi hin
        rw [hw] at h
        exact ⟨trivial, h⟩
      | false =>
        have hf : alF xs v x acc = .inr () := by simp only [alF, hb, cond_false]
        rw [hf]
        rw [hb] at hin
        exact ⟨_, _, _, r18of_p0 cxb xs.length (intl xs) v hi hin, rfl, rfl, rfl⟩)
    (fun acc _ => ⟨_, _, _, r18ox_p0 cxb xs.length (intl xs) xs.length (by omega), rfl, rfl, rfl⟩) () trivial
  rw [foldU_alF, ← List.range_eq_range'] at hl
  have hh : ((List.range xs.length).all fun v => xs.any fun x => x == ((v : Nat) : Int)) = hasAll xs := rfl
  rw [hh] at hl
  cases hr : hasAll xs with
  | true =>
    rw [hr] at hl
    obtain ⟨o, e, s, h1, rfl, rfl⟩ := hl
    have hbk := Run.blockExit (c := yC18x32) (a := sub [true, false, true, false] yB18) (id := 0) (by kernel_rfl) h1
    exact ExCall.of_run (fn := Tryz.f18) (c := yC18x33) (ids := []) (vs := [.bool true]) (by kernel_rfl) (by kernel_rfl) (by kernel_rfl) (w18t_p0 cxb xs.length (intl xs) _ hbk) rfl rfl rfl
  | false =>
    rw [hr] at hl
    obtain ⟨o, e, s, h1, rfl, rfl⟩ := hl
    have hbk := Run.block (c := yC18x32) (a := sub [true, false, true, false] yB18) (id := 0) (by kernel_rfl) rfl h1
    exact ExCall.of_run (fn := Tryz.f18) (c := yC18x33) (ids := []) (vs := [.bool false]) (by kernel_rfl) (by kernel_rfl) (by kernel_rfl) (w18f_p0 cxb xs.length (intl xs) _ hbk) rfl rfl rfl
end
end Go.Ax

namespace Go.Ax
open Go.Proofs
set_option linter.unusedVariables false
set_option linter.unusedSimpArgs false
set_option maxRecDepth 100000

theorem plain_intl (xs : List Int) (n : Nat) : ∀ z ∈ intl xs, Plain n z := Plain.ints xs n
theorem intl_zero (n : Nat) : List.replicate n (AVal.int .i64 0) = intl (List.replicate n 0) := by simp [intl]

theorem frz_intl' {h : Heap} {cxb : Bool} {b : Id} {inc cur low : Nat} {data : Bool} {xs : List Int} {n : Nat} (hn : xs.length = n) (hl : lkI b h = some (.row inc cur low data (intl xs))) : frz false h (.sl cxb b inc cur 0 n 1) = some (.fsl false cxb n (intl xs), [b]) := by
  subst hn
  exact frz_intl hl

/-! ### Apply -/
section
variable (cp cm : Bool) (ps ms : List Int) (hm : ms.length ≤ 1000) (hall : hasAll ps = true) (hle : ¬ ps.length < ms.length)

def nilEnv4 : Env := [(4, .fsl false true 0 [])]

include hm hall hle in
theorem loop6 : Ends polY Tryz.prog ⟨6, 0, 44, none⟩ (sub [true, true, true, false, true, false] yB6) [(23, .int .i64 0), (22, .int .i64 ((ms.length : Nat) : Int)), (21, .fsl false cm ms.length (intl ms)), (5, .sl true (.r 6020) 0 0 0 ms.length 1), (0, .fsl false cp ps.length (intl ps)), (1, .fsl false cm ms.length (intl ms)), (4, .fsl false true 0 [])]
    ⟨1, 44, 0, [(.r 6020, .row 0 0 (List.replicate ms.length (.int .i64 0 : AVal)).length true (List.replicate ms.length (.int .i64 0 : AVal)))]⟩
    (fun acc p => p.1 = .exit 0 ∧ p.2.1 = [(5, .sl true (.r 6020) 0 0 0 ms.length 1)] ∧ acc.2.length = ms.length ∧ p.2.2 = ⟨acc.1, 44, 0, [(.r 6020, .row 0 0 (List.replicate ms.length (.int .i64 0 : AVal)).length true (intl acc.2))]⟩)
    (fun (_ : Unit) p => p.1 = .ret ∧ p.2.1 = [(4, .fsl false true 0 [])]) (foldU (clked 0 (apF (nats ps) ms.length)) ms 0 (1, List.replicate ms.length 0)) := by
  have hl := loop_list (pol := polY) (P := Tryz.prog) (cx := ⟨6, 0, 44, none⟩) (c := sub [true, true, true, false, true, false] yB6) (a := yC6x0) (by kernel_rfl) (by kernel_rfl)
    (fun i (_ : Nat × List Int) => [(23, .int .i64 ((i : Nat) : Int)), (22, .int .i64 ((ms.length : Nat) : Int)), (21, .fsl false cm ms.length (intl ms)), (5, .sl true (.r 6020) 0 0 0 ms.length 1), (0, .fsl false cp ps.length (intl ps)), (1, .fsl false cm ms.length (intl ms)), (4, .fsl false true 0 [])])
    (fun _ acc => ⟨acc.1, 44, 0, [(.r 6020, .row 0 0 (List.replicate ms.length (.int .i64 0 : AVal)).length true (intl acc.2))]⟩) (fun _ acc => acc.2.length = ms.length) (clked 0 (apF (nats ps) ms.length))
    (ee := fun acc p => p.1 = .exit 0 ∧ p.2.1 = [(5, .sl true (.r 6020) 0 0 0 ms.length 1)] ∧ acc.2.length = ms.length ∧ p.2.2 = ⟨acc.1, 44, 0, [(.r 6020, .row 0 0 (List.replicate ms.length (.int .i64 0 : AVal)).length true (intl acc.2))]⟩)
    (er := fun (_ : Unit) p => p.1 = .ret ∧ p.2.1 = [(4, .fsl false true 0 [])]) ms
    (fun i x acc he hv => by
      obtain ⟨c, oc⟩ := acc
      have hv' : oc.length = ms.length := hv
      have hi : i < ms.length := (List.getElem?_eq_some_iff.1 he).1
      have hn : i < ps.length := by omega
      obtain ⟨k, hk1, hk2, hk3⟩ := nats_at hall hn
      have hdm := intl_drop ms i x he
      have hdp := intl_drop ps i _ hk1
      cases hkl : decide (k < ms.length) with
      | true =>
        have hf : clked 0 (apF (nats ps) ms.length) i x (c, oc) = .inl (c + 0, oc.set k x) := by simp only [clked, apF, hk2, hkl, cond_true]
        rw [hf]
        have hkl' : k < ms.length := of_decide_eq_true hkl
        have h := r6t_p0 cp cm ps.length ms.length (intl ps) (intl ms) i c (List.replicate ms.length (.int .i64 0 : AVal)).length (intl oc) (by simpa using hv') k x _ _ hi hn hdp hdm hkl'
        rw [wrapY (by omega), setAt_one oc k x (by omega)] at h
        exact ⟨by simpa using hv', h⟩
      | false =>
        have hf : clked 0 (apF (nats ps) ms.length) i x (c, oc) = .inr () := by simp only [clked, apF, hk2, hkl, cond_false]
        rw [hf]
        have hkl' : ¬ k < ms.length := of_decide_eq_false hkl
        exact ⟨_, _, _, r6f_p0 cp cm ps.length ms.length (intl ps) (intl ms) i c (List.replicate ms.length (.int .i64 0 : AVal)).length (intl oc) (by simpa using hv') k x _ _ hi hn hdp hdm hkl', rfl, rfl, rfl⟩)
    (fun acc hv => ⟨_, _, _, r6x_p0 cp cm ps.length ms.length (intl ps) (intl ms) ms.length acc.1 (List.replicate ms.length (.int .i64 0 : AVal)).length (intl acc.2) (by omega), rfl, rfl, rfl, hv, rfl⟩) (1, List.replicate ms.length 0) (by simp)
  simp only [← intl_zero] at hl
  exact hl

include hm hall hle in
theorem loop7 : Ends polY Tryz.prog ⟨7, 0, 44, none⟩ (sub [true, true, true, false, true, false] yB7) [(6, .int .i64 0), (5, .sl true (.r 7019) 0 0 0 ms.length 1), (0, .fsl false cp ps.length (intl ps)), (1, .fsl false cm ms.length (intl ms)), (4, .fsl false true 0 [])]
    ⟨1, 44, 0, [(.r 7019, .row 0 0 (List.replicate ms.length (.int .i64 0 : AVal)).length true (List.replicate ms.length (.int .i64 0 : AVal)))]⟩
    (fun acc p => p.1 = .exit 0 ∧ p.2.1 = [(5, .sl true (.r 7019) 0 0 0 ms.length 1)] ∧ acc.2.length = ms.length ∧ p.2.2 = ⟨acc.1, 44, 0, [(.r 7019, .row 0 0 (List.replicate ms.length (.int .i64 0 : AVal)).length true (intl acc.2))]⟩)
    (fun (_ : Unit) p => p.1 = .ret ∧ p.2.1 = [(4, .fsl false true 0 [])]) (foldU (clked 11 (apF (nats ps) ms.length)) ms 0 (1, List.replicate ms.length 0)) := by
  have hl := loop_list (pol := polY) (P := Tryz.prog) (cx := ⟨7, 0, 44, none⟩) (c := sub [true, true, true, false, true, false] yB7) (a := yC7x0) (by kernel_rfl) (by kernel_rfl)
    (fun i (_ : Nat × List Int) => [(6, .int .i64 ((i : Nat) : Int)), (5, .sl true (.r 7019) 0 0 0 ms.length 1), (0, .fsl false cp ps.length (intl ps)), (1, .fsl false cm ms.length (intl ms)), (4, .fsl false true 0 [])])
    (fun _ acc => ⟨acc.1, 44, 0, [(.r 7019, .row 0 0 (List.replicate ms.length (.int .i64 0 : AVal)).length true (intl acc.2))]⟩) (fun _ acc => acc.2.length = ms.length) (clked 11 (apF (nats ps) ms.length))
    (ee := fun acc p => p.1 = .exit 0 ∧ p.2.1 = [(5, .sl true (.r 7019) 0 0 0 ms.length 1)] ∧ acc.2.length = ms.length ∧ p.2.2 = ⟨acc.1, 44, 0, [(.r 7019, .row 0 0 (List.replicate ms.length (.int .i64 0 : AVal)).length true (intl acc.2))]⟩)
    (er := fun (_ : Unit) p => p.1 = .ret ∧ p.2.1 = [(4, .fsl false true 0 [])]) ms
    (fun i x acc he hv => by
      obtain ⟨c, oc⟩ := acc
      have hv' : oc.length = ms.length := hv
      have hi : i < ms.length := (List.getElem?_eq_some_iff.1 he).1
      have hn : i < ps.length := by omega
      obtain ⟨k, hk1, hk2, hk3⟩ := nats_at hall hn
      have hdm := intl_drop ms i x he
      have hdp := intl_drop ps i _ hk1
      cases hkl : decide (k < ms.length) with
      | true =>
        have hf : clked 11 (apF (nats ps) ms.length) i x (c, oc) = .inl (c + 11, oc.set k x) := by simp only [clked, apF, hk2, hkl, cond_true]
        rw [hf]
        have hkl' : k < ms.length := of_decide_eq_true hkl
        have h := r7t_p0 cp cm ps.length ms.length (intl ps) (intl ms) i c (List.replicate ms.length (.int .i64 0 : AVal)).length (intl oc) (by simpa using hv') k x _ _ hi hn hdp hdm hkl' (plain_intl _ _) (plain_intl _ _) (plain_intl (((k : Nat) : Int) :: ps.drop (i + 1)) 0) (plain_intl (x :: ms.drop (i + 1)) 0)
        rw [wrapY (by omega), setAt_one oc k x (by omega)] at h
        exact ⟨by simpa using hv', h⟩
      | false =>
        have hf : clked 11 (apF (nats ps) ms.length) i x (c, oc) = .inr () := by simp only [clked, apF, hk2, hkl, cond_false]
        rw [hf]
        have hkl' : ¬ k < ms.length := of_decide_eq_false hkl
        exact ⟨_, _, _, r7f_p0 cp cm ps.length ms.length (intl ps) (intl ms) i c (List.replicate ms.length (.int .i64 0 : AVal)).length (intl oc) (by simpa using hv') k x _ _ hi hn hdp hdm hkl', rfl, rfl, rfl⟩)
    (fun acc hv => ⟨_, _, _, r7x_p0 cp cm ps.length ms.length (intl ps) (intl ms) ms.length acc.1 (List.replicate ms.length (.int .i64 0 : AVal)).length (intl acc.2) (by omega), rfl, rfl, rfl, hv, rfl⟩) (1, List.replicate ms.length 0) (by simp)
  simp only [← intl_zero] at hl
  exact hl
end

theorem call6 (cp cm : Bool) (ps ms : List Int) (hp : ps.length ≤ 1000) (hm : ms.length ≤ 1000) : ∃ ca, ExCall polY Tryz.prog 6 [.fsl false cp ps.length (intl ps), .fsl false cm ms.length (intl ms)] (.fsl false ca (applyL ps ms).length (intl (applyL ps ms))) := by
  have h17 := call17 cp ps hp
  unfold applyL
  cases hall : hasAll ps with
  | false =>
    rw [hall] at h17
    exact ⟨true, ExCall.of_run (fn := Tryz.f6) (c := yC6x20) (ids := []) (vs := [.fsl false true 0 []]) (by kernel_rfl) (by kernel_rfl) (by kernel_rfl) (w6b_p0 cp cm ps.length ms.length (intl ps) (intl ms) h17) rfl rfl rfl⟩
  | true =>
    rw [hall] at h17
    cases hlt : decide (ps.length < ms.length) with
    | true => exact ⟨true, ExCall.of_run (fn := Tryz.f6) (c := yC6x20) (ids := []) (vs := [.fsl false true 0 []]) (by kernel_rfl) (by kernel_rfl) (by kernel_rfl) (w6s_p0 cp cm ps.length ms.length (intl ps) (intl ms) h17 (of_decide_eq_true hlt)) rfl rfl rfl⟩
    | false =>
      have hle := of_decide_eq_false hlt
      have hl := loop6 cp cm ps ms hm hall hle
      rw [foldU_clked] at hl
      simp only [cond_true, cond_false]
      cases hf : foldU (apF (nats ps) ms.length) ms 0 (List.replicate ms.length 0) with
      | inl oc =>
        rw [hf] at hl
        obtain ⟨o, e, s, h1, rfl, rfl, hoc, rfl⟩ := hl
        have hbk := Run.blockExit (c := yC6x31) (a := sub [true, true, true, false, true, false] yB6) (id := 0) (by kernel_rfl) h1
        have hw := w6n_p0 cp cm ps.length ms.length (intl ps) (intl ms) h17 hle (by omega) _ hbk
        have hoc' : oc.length = ms.length := hoc
        have hfin : ExCall polY Tryz.prog 6 [.fsl false cp ps.length (intl ps), .fsl false cm ms.length (intl ms)] (.fsl false true ms.length (intl oc)) :=
          ExCall.of_run (fn := Tryz.f6) (c := yC6x20) (ids := [.r 6020]) (vs := [.sl true (.r 6020) 0 0 0 ms.length 1]) (by kernel_rfl) (by kernel_rfl) (by kernel_rfl) hw rfl rfl (frz_intl' hoc' rfl)
        refine ⟨true, ?_⟩
        show ExCall polY Tryz.prog 6 _ (.fsl false true oc.length (intl oc))
        rw [hoc']
        exact hfin
      | inr u =>
        rw [hf] at hl
        obtain ⟨o, e, s, h1, rfl, rfl⟩ := hl
        have hbk := Run.block (c := yC6x31) (a := sub [true, true, true, false, true, false] yB6) (id := 0) (by kernel_rfl) rfl h1
        exact ⟨true, ExCall.of_run (fn := Tryz.f6) (c := yC6x20) (ids := []) (vs := [.fsl false true 0 []]) (by kernel_rfl) (by kernel_rfl) (by kernel_rfl) (w6r_p0 cp cm ps.length ms.length (intl ps) (intl ms) h17 hle (by omega) _ hbk) rfl rfl rfl⟩

theorem call7 (cp cm : Bool) (ps ms : List Int) (hp : ps.length ≤ 1000) (hm : ms.length ≤ 1000) : ∃ ca, ExCall polY Tryz.prog 7 [.fsl false cp ps.length (intl ps), .fsl false cm ms.length (intl ms)] (.fsl false ca (applyL ps ms).length (intl (applyL ps ms))) := by
  have h18 := call18 cp ps hp
  unfold applyL
  cases hall : hasAll ps with
  | false =>
    rw [hall] at h18
    exact ⟨true, ExCall.of_run (fn := Tryz.f7) (c := yC7x18) (ids := []) (vs := [.fsl false true 0 []]) (by kernel_rfl) (by kernel_rfl) (by kernel_rfl) (w7b_p0 cp cm ps.length ms.length (intl ps) (intl ms) h18) rfl rfl rfl⟩
  | true =>
    rw [hall] at h18
    cases hlt : decide (ps.length < ms.length) with
    | true => exact ⟨true, ExCall.of_run (fn := Tryz.f7) (c := yC7x18) (ids := []) (vs := [.fsl false true 0 []]) (by kernel_rfl) (by kernel_rfl) (by kernel_rfl) (w7s_p0 cp cm ps.length ms.length (intl ps) (intl ms) h18 (of_decide_eq_true hlt)) rfl rfl rfl⟩
    | false =>
      have hle := of_decide_eq_false hlt
      have hl := loop7 cp cm ps ms hm hall hle
      rw [foldU_clked] at hl
      simp only [cond_true, cond_false]
      cases hf : foldU (apF (nats ps) ms.length) ms 0 (List.replicate ms.length 0) with
      | inl oc =>
        rw [hf] at hl
        obtain ⟨o, e, s, h1, rfl, rfl, hoc, rfl⟩ := hl
        have hbk := Run.blockExit (c := yC7x29) (a := sub [true, true, true, false, true, false] yB7) (id := 0) (by kernel_rfl) h1
        have hw := w7n_p0 cp cm ps.length ms.length (intl ps) (intl ms) h18 hle (by omega) _ hbk
        have hoc' : oc.length = ms.length := hoc
        have hfin : ExCall polY Tryz.prog 7 [.fsl false cp ps.length (intl ps), .fsl false cm ms.length (intl ms)] (.fsl false true ms.length (intl oc)) :=
          ExCall.of_run (fn := Tryz.f7) (c := yC7x18) (ids := [.r 7019]) (vs := [.sl true (.r 7019) 0 0 0 ms.length 1]) (by kernel_rfl) (by kernel_rfl) (by kernel_rfl) hw rfl rfl (frz_intl' hoc' rfl)
        refine ⟨true, ?_⟩
        show ExCall polY Tryz.prog 7 _ (.fsl false true oc.length (intl oc))
        rw [hoc']
        exact hfin
      | inr u =>
        rw [hf] at hl
        obtain ⟨o, e, s, h1, rfl, rfl⟩ := hl
        have hbk := Run.block (c := yC7x29) (a := sub [true, true, true, false, true, false] yB7) (id := 0) (by kernel_rfl) rfl h1
        exact ⟨true, ExCall.of_run (fn := Tryz.f7) (c := yC7x18) (ids := []) (vs := [.fsl false true 0 []]) (by kernel_rfl) (by kernel_rfl) (by kernel_rfl) (w7r_p0 cp cm ps.length ms.length (intl ps) (intl ms) h18 hle (by omega) _ hbk) rfl rfl rfl⟩
end Go.Ax

namespace Go.Ax
open Go.Proofs
set_option linter.unusedVariables false
set_option linter.unusedSimpArgs false
set_option maxRecDepth 100000

theorem composeL_len {ps qs : List Int} (hp : hasAll ps = true) (hq : hasAll qs = true) (hn : ps.length = qs.length) : composeL ps qs = qs.map fun y => ps.getD y.toNat 0 := by
  unfold composeL
  simp [hp, hq, hn]

section
variable (cp cm : Bool) (ps qs : List Int)

theorem call8 (hp : ps.length ≤ 1000) (hq : qs.length ≤ 1000) : ∃ ca, ExCall polY Tryz.prog 8 [.fsl false cp ps.length (intl ps), .fsl false cm qs.length (intl qs)] (.fsl false ca (composeL ps qs).length (intl (composeL ps qs))) := by
  have h1 := call17 cp ps hp
  have h2 := call17 cm qs hq
  cases hap : hasAll ps with
  | false =>
    rw [hap] at h1
    have e : composeL ps qs = [] := by unfold composeL; simp [hap]
    rw [e]
    exact ⟨true, ExCall.of_run (fn := Tryz.f8) (c := yC8x12) (ids := []) (vs := [.fsl false true 0 []]) (by kernel_rfl) (by kernel_rfl) (by kernel_rfl) (w8p_p0 cp cm ps.length qs.length (intl ps) (intl qs) h1) rfl rfl rfl⟩
  | true =>
    rw [hap] at h1
    cases haq : hasAll qs with
    | false =>
      rw [haq] at h2
      have e : composeL ps qs = [] := by unfold composeL; simp [haq]
      rw [e]
      exact ⟨true, ExCall.of_run (fn := Tryz.f8) (c := yC8x12) (ids := []) (vs := [.fsl false true 0 []]) (by kernel_rfl) (by kernel_rfl) (by kernel_rfl) (w8q_p0 cp cm ps.length qs.length (intl ps) (intl qs) h1 h2) rfl rfl rfl⟩
    | true =>
      rw [haq] at h2
      by_cases hn : ps.length = qs.length
      · rw [composeL_len hap haq hn]
        have hl := loop_list (pol := polY) (P := Tryz.prog) (cx := ⟨8, 0, 42, none⟩) (c := sub [true, true, true, false, true, false] yB8) (a := yC8x0) (by kernel_rfl) (by kernel_rfl)
          (fun i (_ : List Int) => [(28, .int .i64 ((i : Nat) : Int)), (27, .int .i64 ((ps.length : Nat) : Int)), (26, .fsl false cm ps.length (intl qs)), (5, .sl true (.r 8025) 0 0 0 ps.length 1), (0, .fsl false cp ps.length (intl ps)), (4, .fsl false true 0 [])])
          (fun _ oc => ⟨1, 42, 0, [(.r 8025, .row 0 0 (List.replicate ps.length (.int .i64 0 : AVal)).length true (intl oc))]⟩) (fun _ oc => oc.length = ps.length) (coF ps)
          (ee := fun oc p => p.1 = .exit 0 ∧ p.2.1 = [(5, .sl true (.r 8025) 0 0 0 ps.length 1)] ∧ oc.length = ps.length ∧ p.2.2 = ⟨1, 42, 0, [(.r 8025, .row 0 0 (List.replicate ps.length (.int .i64 0 : AVal)).length true (intl oc))]⟩)
          (er := fun _ _ => False) qs
          (fun i y oc he hv => by
            have hi : i < qs.length := (List.getElem?_eq_some_iff.1 he).1
            obtain ⟨k, hk1, hk2, hk3⟩ := nats_at haq hi
            have hy : y = (k : Int) := by rw [he] at hk1; exact Option.some.inj hk1
            subst hy
            have hkp : k < ps.length := by omega
            have hpk : ps[k]? = some (ps.getD k 0) := by rw [List.getD_eq_getElem?_getD, List.getElem?_eq_getElem hkp]; rfl
            have hdm := intl_drop qs i _ he
            have hdp := intl_drop ps k _ hpk
            have h := r8t_p0 cp cm ps.length ps.length (intl ps) (intl qs) i 1 (List.replicate ps.length (.int .i64 0 : AVal)).length (intl oc) (by simpa using hv) k (ps.getD k 0) _ _ (by omega) hkp hdm hdp
            rw [wrapY (by omega), setAt_one oc i _ (by omega)] at h
            exact ⟨by simpa [coF] using hv, h⟩)
          (fun oc hv => ⟨_, _, _, r8x_p0 cp cm ps.length ps.length (intl ps) (intl qs) qs.length 1 (List.replicate ps.length (.int .i64 0 : AVal)).length (intl oc) (by omega), rfl, rfl, rfl, hv, rfl⟩) (List.replicate ps.length 0) (by simp)
        simp only [← intl_zero] at hl
        have hfold := foldU_coF ps qs []
        simp only [List.length_nil, List.nil_append] at hfold
        rw [hn, hfold, ← hn] at hl
        obtain ⟨o, e, s, g1, rfl, rfl, hoc, rfl⟩ := hl
        have hbk := Run.blockExit (c := yC8x23) (a := sub [true, true, true, false, true, false] yB8) (id := 0) (by kernel_rfl) g1
        rw [← hn] at h2 ⊢
        have hw := w8n_p0 cp cm ps.length ps.length (intl ps) (intl qs) h1 h2 (by omega) _ hbk
        have hfin : ExCall polY Tryz.prog 8 [.fsl false cp ps.length (intl ps), .fsl false cm ps.length (intl qs)] (.fsl false true ps.length (intl (qs.map fun y => ps.getD y.toNat 0))) :=
          ExCall.of_run (fn := Tryz.f8) (c := yC8x12) (ids := [.r 8025]) (vs := [.sl true (.r 8025) 0 0 0 ps.length 1]) (by kernel_rfl) (by kernel_rfl) (by kernel_rfl) hw rfl rfl (frz_intl' hoc rfl)
        refine ⟨true, ?_⟩
        rw [hoc]
        exact hfin
      · have e : composeL ps qs = [] := by
          unfold composeL
          have hb : (ps.length == qs.length) = false := by simpa using hn
          rw [hap, haq, hb]
          rfl
        rw [e]
        exact ⟨true, ExCall.of_run (fn := Tryz.f8) (c := yC8x12) (ids := []) (vs := [.fsl false true 0 []]) (by kernel_rfl) (by kernel_rfl) (by kernel_rfl) (w8s_p0 cp cm ps.length qs.length (intl ps) (intl qs) h1 h2 hn) rfl rfl rfl⟩

/-- What the reference's Compose carries. -/
def E9 (i : Nat) : AccY → Env
  | .nil _ => [(6, .int .i64 ((i : Nat) : Int)), (5, .fsl false true 0 []), (0, .fsl false cp ps.length (intl ps)), (1, .fsl false cm ps.length (intl qs)), (4, .fsl false true 0 [])]
  | .row _ ic vc _ oc _ => [(6, .int .i64 ((i : Nat) : Int)), (5, .sl false (.r 9037) ic vc 0 oc.length 1), (0, .fsl false cp ps.length (intl ps)), (1, .fsl false cm ps.length (intl qs)), (4, .fsl false true 0 [])]
def S9 : AccY → St
  | .nil c => ⟨c, 39, 0, []⟩
  | .row c ic vc lo oc rb => ⟨c, 39, 0, [(.r 9037, .row ic vc lo true (intl oc)), (.r 9036, rb)]⟩
def out9 : AccY → AVal
  | .nil _ => .fsl false true 0 []
  | .row _ ic vc _ oc _ => .sl false (.r 9037) ic vc 0 oc.length 1
def f9s (i : Nat) (y : Int) : AccY → AccY ⊕ Empty
  | .nil c => .inl (.row (c + 2) (c + 1) (c + 1) 1 [ps.getD y.toNat 0] (.row c c 1 true [.int .i64 (ps.getD y.toNat 0)]))
  | .row c ic vc lo oc rb => .inl (.row (c + 2) ic (c + 1) (Nat.min lo (oc.length * 1)) (oc ++ [ps.getD y.toNat 0]) (.row c c 1 true [.int .i64 (ps.getD y.toNat 0)]))
theorem foldU_f9s : ∀ (ys : List Int) (i : Nat) (acc : AccY), ∃ a', foldU (f9s ps) ys i acc = .inl a' ∧ a'.outs = acc.outs ++ ys.map fun y => ps.getD y.toNat 0
  | [], i, acc => ⟨acc, rfl, by simp⟩
  | y :: r, i, acc => by
    obtain ⟨b, hb, ho⟩ : ∃ b, f9s ps i y acc = .inl b ∧ b.outs = acc.outs ++ [ps.getD y.toNat 0] := by
      cases acc with
      | nil c => exact ⟨_, rfl, rfl⟩
      | row c ic vc lo oc rb => exact ⟨_, rfl, rfl⟩
    obtain ⟨a', h1, h2⟩ := foldU_f9s r (i + 1) b
    exact ⟨a', by simp only [foldU, hb, h1], by rw [h2, ho, List.append_assoc]; rfl⟩

theorem call9 (hp : ps.length ≤ 1000) (hq : qs.length ≤ 1000) : ∃ ca, ExCall polY Tryz.prog 9 [.fsl false cp ps.length (intl ps), .fsl false cm qs.length (intl qs)] (.fsl false ca (composeL ps qs).length (intl (composeL ps qs))) := by
  have h1 := call18 cp ps hp
  have h2 := call18 cm qs hq
  cases hap : hasAll ps with
  | false =>
    rw [hap] at h1
    have e : composeL ps qs = [] := by unfold composeL; simp [hap]
    rw [e]
    exact ⟨true, ExCall.of_run (fn := Tryz.f9) (c := yC9x10) (ids := []) (vs := [.fsl false true 0 []]) (by kernel_rfl) (by kernel_rfl) (by kernel_rfl) (w9p_p0 cp cm ps.length qs.length (intl ps) (intl qs) h1) rfl rfl rfl⟩
  | true =>
    rw [hap] at h1
    cases haq : hasAll qs with
    | false =>
      rw [haq] at h2
      have e : composeL ps qs = [] := by unfold composeL; simp [haq]
      rw [e]
      exact ⟨true, ExCall.of_run (fn := Tryz.f9) (c := yC9x10) (ids := []) (vs := [.fsl false true 0 []]) (by kernel_rfl) (by kernel_rfl) (by kernel_rfl) (w9q_p0 cp cm ps.length qs.length (intl ps) (intl qs) h1 h2) rfl rfl rfl⟩
    | true =>
      rw [haq] at h2
      by_cases hn : ps.length = qs.length
      · rw [composeL_len hap haq hn]
        have hl := loop_list (pol := polY) (P := Tryz.prog) (cx := ⟨9, 0, 39, none⟩) (c := sub [true, true, true, false, true, false] yB9) (a := yC9x0) (by kernel_rfl) (by kernel_rfl)
          (E9 cp cm ps qs) (fun _ => S9) (fun i acc => acc.outs.length ≤ i) (f9s ps)
          (ee := fun acc p => p.1 = .exit 0 ∧ p.2.1 = [(5, out9 acc)] ∧ p.2.2 = S9 acc)
          (er := fun _ _ => False) qs
          (fun i y acc he hv => by
            have hi : i < qs.length := (List.getElem?_eq_some_iff.1 he).1
            obtain ⟨k, hk1, hk2, hk3⟩ := nats_at haq hi
            have hy : y = (k : Int) := by rw [he] at hk1; exact Option.some.inj hk1
            subst hy
            have hkp : k < ps.length := by omega
            have hpk : ps[k]? = some (ps.getD k 0) := by rw [List.getD_eq_getElem?_getD, List.getElem?_eq_getElem hkp]; rfl
            have hdm := intl_drop qs i _ he
            have hdp := intl_drop ps k _ hpk
            have hwr : IntKind.i64.wrap (((i : Nat) : Int) + 1) = ((i + 1 : Nat) : Int) := wrapY (by omega)
            cases acc with
            | nil c =>
              have h := r9A_p0 cp cm ps.length ps.length (intl ps) (intl qs) i c k (ps.getD k 0) _ _ (by omega) hkp hdm hdp
              rw [hwr] at h
              exact ⟨Nat.succ_le_succ (Nat.zero_le _), h⟩
            | row c ic vc lo oc rb =>
              have hoc : oc.length ≤ i := hv
              have h := r9B_p0 cp cm ps.length ps.length (intl ps) (intl qs) i c ic vc lo oc.length (intl oc) rb (by simp) (by omega) (by omega) k (ps.getD k 0) _ _ (by omega) hkp hdm hdp
              rw [hwr] at h
              refine ⟨by simp only [AccY.outs, List.length_append, List.length_cons, List.length_nil]; omega, ?_⟩
              have e1 : intl oc ++ [AVal.int .i64 (ps.getD k 0)] = intl (oc ++ [ps.getD k 0]) := by simp
              rw [e1] at h
              simpa [E9, S9] using h)
          (fun acc hv => by
            cases acc with
            | nil c => exact ⟨_, _, _, r9xA_p0 cp cm ps.length ps.length (intl ps) (intl qs) qs.length c (by omega), rfl, rfl, rfl, rfl⟩
            | row c ic vc lo oc rb => exact ⟨_, _, _, r9xB_p0 cp cm ps.length ps.length (intl ps) (intl qs) qs.length c ic vc lo oc.length (intl oc) rb (by omega), rfl, rfl, rfl, rfl⟩) (.nil 0) (Nat.zero_le _)
        obtain ⟨a', ha, ho⟩ := foldU_f9s ps qs 0 (.nil 0)
        simp only [AccY.outs, List.nil_append] at ho
        rw [ha] at hl
        obtain ⟨o, e, s, g1, rfl, rfl, rfl⟩ := hl
        have hbk := Run.blockExit (c := yC9x21) (a := sub [true, true, true, false, true, false] yB9) (id := 0) (by kernel_rfl) g1
        rw [← hn] at h2 ⊢
        have hw := w9n_p0 cp cm ps.length ps.length (intl ps) (intl qs) (out9 a') h1 h2 _ hbk
        cases a' with
        | nil c =>
          refine ⟨true, ?_⟩
          rw [← ho]
          exact ExCall.of_run (fn := Tryz.f9) (c := yC9x10) (ids := []) (vs := [.fsl false true 0 []]) (by kernel_rfl) (by kernel_rfl) (by kernel_rfl) hw rfl rfl rfl
        | row c ic vc lo oc rb =>
          refine ⟨false, ?_⟩
          rw [← ho]
          exact ExCall.of_run (fn := Tryz.f9) (c := yC9x10) (ids := [.r 9037]) (vs := [.sl false (.r 9037) ic vc 0 oc.length 1]) (by kernel_rfl) (by kernel_rfl) (by kernel_rfl) hw rfl rfl
            (frz_intl (h := [(.r 9037, .row ic vc lo true (intl oc)), (.r 9036, rb)]) rfl)
      · have e : composeL ps qs = [] := by
          unfold composeL
          have hb : (ps.length == qs.length) = false := by simpa using hn
          rw [hap, haq, hb]
          rfl
        rw [e]
        exact ⟨true, ExCall.of_run (fn := Tryz.f9) (c := yC9x10) (ids := []) (vs := [.fsl false true 0 []]) (by kernel_rfl) (by kernel_rfl) (by kernel_rfl) (w9s_p0 cp cm ps.length qs.length (intl ps) (intl qs) h1 h2 hn) rfl rfl rfl⟩
end

/-! ### Inverse -/
section
variable (cp : Bool) (ps : List Int)

theorem foldU_inF_len : ∀ (ys : List Int) (i : Nat) (oc : List Int), ∃ o, foldU inF ys i oc = .inl o ∧ o.length = oc.length
  | [], i, oc => ⟨oc, rfl, rfl⟩
  | y :: r, i, oc => by
    obtain ⟨o, h1, h2⟩ := foldU_inF_len r (i + 1) (oc.set y.toNat ((i : Nat) : Int))
    exact ⟨o, by simp only [foldU, inF, h1], by rw [h2]; simp⟩

theorem call10 (hp : ps.length ≤ 1000) : ∃ ca, ExCall polY Tryz.prog 10 [.fsl false cp ps.length (intl ps)] (.fsl false ca (inverseL ps).length (intl (inverseL ps))) := by
  have h1 := call17 cp ps hp
  unfold inverseL
  cases hap : hasAll ps with
  | false =>
    rw [hap] at h1
    exact ⟨true, ExCall.of_run (fn := Tryz.f10) (c := yC10x12) (ids := []) (vs := [.fsl false true 0 []]) (by kernel_rfl) (by kernel_rfl) (by kernel_rfl) (w10b_p0 cp true ps.length 0 (intl ps) [] h1) rfl rfl rfl⟩
  | true =>
    rw [hap] at h1
    have hl := loop_list (pol := polY) (P := Tryz.prog) (cx := ⟨10, 0, 25, none⟩) (c := sub [true, true, true, false, true, false] yB10) (a := yC10x0) (by kernel_rfl) (by kernel_rfl)
      (fun i (_ : List Int) => [(14, .int .i64 ((i : Nat) : Int)), (13, .int .i64 ((ps.length : Nat) : Int)), (12, .fsl false cp ps.length (intl ps)), (3, .sl true (.r 10011) 0 0 0 ps.length 1), (2, .fsl false true 0 [])])
      (fun _ oc => ⟨1, 25, 0, [(.r 10011, .row 0 0 (List.replicate ps.length (.int .i64 0 : AVal)).length true (intl oc))]⟩) (fun _ oc => oc.length = ps.length) inF
      (ee := fun oc p => p.1 = .exit 0 ∧ p.2.1 = [(3, .sl true (.r 10011) 0 0 0 ps.length 1)] ∧ oc.length = ps.length ∧ p.2.2 = ⟨1, 25, 0, [(.r 10011, .row 0 0 (List.replicate ps.length (.int .i64 0 : AVal)).length true (intl oc))]⟩)
      (er := fun _ _ => False) ps
      (fun i y oc he hv => by
        have hi : i < ps.length := (List.getElem?_eq_some_iff.1 he).1
        obtain ⟨k, hk1, hk2, hk3⟩ := nats_at hap hi
        have hy : y = (k : Int) := by rw [he] at hk1; exact Option.some.inj hk1
        subst hy
        have hdp := intl_drop ps i _ he
        have h := r10t_p0 cp true ps.length 0 (intl ps) [] i 1 (List.replicate ps.length (.int .i64 0 : AVal)).length (intl oc) (by simpa using hv) k _ hi hk3 hdp
        rw [wrapY (by omega), setAt_one oc k _ (by omega)] at h
        exact ⟨by simpa [inF] using hv, h⟩)
      (fun oc hv => ⟨_, _, _, r10x_p0 cp true ps.length 0 (intl ps) [] ps.length 1 (List.replicate ps.length (.int .i64 0 : AVal)).length (intl oc) (by omega), rfl, rfl, rfl, hv, rfl⟩) (List.replicate ps.length 0) (by simp)
    simp only [← intl_zero] at hl
    obtain ⟨oc, hf, hlen⟩ := foldU_inF_len ps 0 (List.replicate ps.length 0)
    rw [hf] at hl ⊢
    obtain ⟨o, e, s, g1, rfl, rfl, hoc, rfl⟩ := hl
    have hbk := Run.blockExit (c := yC10x23) (a := sub [true, true, true, false, true, false] yB10) (id := 0) (by kernel_rfl) g1
    have hw := w10n_p0 cp true ps.length 0 (intl ps) [] h1 (by omega) _ hbk
    have hfin : ExCall polY Tryz.prog 10 [.fsl false cp ps.length (intl ps)] (.fsl false true ps.length (intl oc)) :=
      ExCall.of_run (fn := Tryz.f10) (c := yC10x12) (ids := [.r 10011]) (vs := [.sl true (.r 10011) 0 0 0 ps.length 1]) (by kernel_rfl) (by kernel_rfl) (by kernel_rfl) hw rfl rfl (frz_intl' hoc rfl)
    refine ⟨true, ?_⟩
    show ExCall polY Tryz.prog 10 _ (.fsl false true oc.length (intl oc))
    rw [hoc]
    exact hfin

theorem call11 (hp : ps.length ≤ 1000) : ∃ ca, ExCall polY Tryz.prog 11 [.fsl false cp ps.length (intl ps)] (.fsl false ca (inverseL ps).length (intl (inverseL ps))) := by
  have h1 := call18 cp ps hp
  unfold inverseL
  cases hap : hasAll ps with
  | false =>
    rw [hap] at h1
    exact ⟨true, ExCall.of_run (fn := Tryz.f11) (c := yC11x10) (ids := []) (vs := [.fsl false true 0 []]) (by kernel_rfl) (by kernel_rfl) (by kernel_rfl) (w11b_p0 cp true ps.length 0 (intl ps) [] h1) rfl rfl rfl⟩
  | true =>
    rw [hap] at h1
    have hl := loop_list (pol := polY) (P := Tryz.prog) (cx := ⟨11, 0, 25, none⟩) (c := sub [true, true, true, false, true, false] yB11) (a := yC11x0) (by kernel_rfl) (by kernel_rfl)
      (fun i (_ : List Int) => [(4, .int .i64 ((i : Nat) : Int)), (0, .fsl false cp ps.length (intl ps)), (3, .sl true (.r 11010) 0 0 0 ps.length 1), (2, .fsl false true 0 [])])
      (fun _ oc => ⟨1, 25, 0, [(.r 11010, .row 0 0 (List.replicate ps.length (.int .i64 0 : AVal)).length true (intl oc))]⟩) (fun _ oc => oc.length = ps.length) inF
      (ee := fun oc p => p.1 = .exit 0 ∧ p.2.1 = [(3, .sl true (.r 11010) 0 0 0 ps.length 1)] ∧ oc.length = ps.length ∧ p.2.2 = ⟨1, 25, 0, [(.r 11010, .row 0 0 (List.replicate ps.length (.int .i64 0 : AVal)).length true (intl oc))]⟩)
      (er := fun _ _ => False) ps
      (fun i y oc he hv => by
        have hi : i < ps.length := (List.getElem?_eq_some_iff.1 he).1
        obtain ⟨k, hk1, hk2, hk3⟩ := nats_at hap hi
        have hy : y = (k : Int) := by rw [he] at hk1; exact Option.some.inj hk1
        subst hy
        have hdp := intl_drop ps i _ he
        have h := r11t_p0 cp true ps.length 0 (intl ps) [] i 1 (List.replicate ps.length (.int .i64 0 : AVal)).length (intl oc) (by simpa using hv) k _ hi hk3 hdp
        rw [wrapY (by omega), setAt_one oc k _ (by omega)] at h
        exact ⟨by simpa [inF] using hv, h⟩)
      (fun oc hv => ⟨_, _, _, r11x_p0 cp true ps.length 0 (intl ps) [] ps.length 1 (List.replicate ps.length (.int .i64 0 : AVal)).length (intl oc) (by omega), rfl, rfl, rfl, hv, rfl⟩) (List.replicate ps.length 0) (by simp)
    simp only [← intl_zero] at hl
    obtain ⟨oc, hf, hlen⟩ := foldU_inF_len ps 0 (List.replicate ps.length 0)
    rw [hf] at hl ⊢
    obtain ⟨o, e, s, g1, rfl, rfl, hoc, rfl⟩ := hl
    have hbk := Run.blockExit (c := yC11x21) (a := sub [true, true, true, false, true, false] yB11) (id := 0) (by kernel_rfl) g1
    have hw := w11n_p0 cp true ps.length 0 (intl ps) [] h1 (by omega) _ hbk
    have hfin : ExCall polY Tryz.prog 11 [.fsl false cp ps.length (intl ps)] (.fsl false true ps.length (intl oc)) :=
      ExCall.of_run (fn := Tryz.f11) (c := yC11x10) (ids := [.r 11010]) (vs := [.sl true (.r 11010) 0 0 0 ps.length 1]) (by kernel_rfl) (by kernel_rfl) (by kernel_rfl) hw rfl rfl (frz_intl' hoc rfl)
    refine ⟨true, ?_⟩
    show ExCall polY Tryz.prog 11 _ (.fsl false true oc.length (intl oc))
    rw [hoc]
    exact hfin
end

/-! ### equal lists -/
theorem call5 (ca cb : Bool) (xs : List Int) (hx : xs.length ≤ 1000) : ExCall polY Tryz.prog 5 [.fsl false ca xs.length (intl xs), .fsl false cb xs.length (intl xs)] (.bool true) := by
  have hl := loop_list (pol := polY) (P := Tryz.prog) (cx := ⟨5, 0, 26, none⟩) (c := sub [true, true, false, true, false] yB5) (a := yC5x0) (by kernel_rfl) (by kernel_rfl)
    (fun i (_ : Nat) => [(5, .int .i64 ((i : Nat) : Int)), (1, .fsl false cb xs.length (intl xs)), (0, .fsl false ca xs.length (intl xs)), (4, .bool false)]) (fun _ c => ⟨c, 26, 0, []⟩) (fun _ _ => True) (fun _ (_ : Int) c => (.inl (c + 9) : Nat ⊕ Empty))
    (ee := fun c p => p.1 = .exit 0 ∧ p.2.1 = [(4, .bool false)]) (er := fun _ _ => False) xs
    (fun i x c he _ => by
      have hi : i < xs.length := (List.getElem?_eq_some_iff.1 he).1
      have hd := intl_drop xs i x he
      have h := r5_p0 i xs.length c x ca cb (intl xs) _ hi hd
      rw [wrapY (by omega)] at h
      exact ⟨trivial, h⟩)
    (fun c _ => ⟨_, _, _, r5x_p0 xs.length xs.length c 0 ca cb (intl xs) [] (by omega), rfl, rfl, rfl⟩) 0 trivial
  obtain ⟨a', ha⟩ : ∃ a', foldU (fun _ (_ : Int) c => (.inl (c + 9) : Nat ⊕ Empty)) xs 0 0 = .inl a' := by
    have : ∀ (ys : List Int) (i c : Nat), ∃ a', foldU (fun _ (_ : Int) c => (.inl (c + 9) : Nat ⊕ Empty)) ys i c = .inl a' := by
      intro ys
      induction ys with
      | nil => exact fun i c => ⟨c, rfl⟩
      | cons y r ih => exact fun i c => ih (i + 1) (c + 9)
    exact this xs 0 0
  rw [ha] at hl
  obtain ⟨o, e, s, h1, rfl, rfl⟩ := hl
  have hbk := Run.blockExit (c := yC5x14) (a := sub [true, true, false, true, false] yB5) (id := 0) (by kernel_rfl) h1
  have hw := w5_p0 xs.length ca cb (intl xs) _ hbk
  exact ExCall.of_run (fn := Tryz.f5) (c := yC5x15) (ids := []) (vs := [.bool true]) (by kernel_rfl) (by kernel_rfl) (by kernel_rfl) hw rfl rfl rfl

theorem applyL_len (ps ms : List Int) : (applyL ps ms).length ≤ ms.length := by
  unfold applyL
  have hf : ∀ (ys : List Int) (i : Nat) (oc o : List Int), foldU (apF (nats ps) ms.length) ys i oc = .inl o → o.length = oc.length := by
    intro ys
    induction ys with
    | nil => intro i oc o h; simp only [foldU, Sum.inl.injEq] at h; rw [h]
    | cons y r ih =>
      intro i oc o h
      simp only [foldU] at h
      cases ha : apF (nats ps) ms.length i y oc with
      | inr u => rw [ha] at h; cases h
      | inl o1 =>
        rw [ha] at h
        rw [ih (i + 1) o1 o h]
        unfold apF at ha
        split at ha
        · rename_i k _
          cases hk : decide (k < ms.length) with
          | true => rw [hk] at ha; simp only [cond_true, Sum.inl.injEq] at ha; rw [← ha]; simp
          | false => rw [hk] at ha; cases ha
        · cases ha
  cases hasAll ps <;> cases decide (ps.length < ms.length) <;> simp only [cond_true, cond_false, List.length_nil, Nat.zero_le]
  split
  · rename_i o h
    rw [hf _ _ _ _ h]
    simp
  · simp

theorem composeL_le (ps qs : List Int) : (composeL ps qs).length ≤ qs.length := by
  unfold composeL
  cases (hasAll ps && hasAll qs && (ps.length == qs.length)) <;> simp
theorem inverseL_le (ps : List Int) : (inverseL ps).length ≤ ps.length := by
  unfold inverseL
  obtain ⟨oc, hf, hlen⟩ := foldU_inF_len ps 0 (List.replicate ps.length 0)
  rw [hf]
  cases hasAll ps <;> simp at hlen ⊢
  omega

/-- The law. -/
theorem call3 (cp cq cm : Bool) (ps qs ms : List Int) (h4 : ExCall polY Tryz.prog 4 [] (.bool true)) : ExCall polY Tryz.prog 3 [.fsl false cp ps.length (intl ps), .fsl false cq qs.length (intl qs), .fsl false cm ms.length (intl ms)] (.bool true) := by
  by_cases hp : ps.length > 40
  · exact ExCall.of_run (fn := Tryz.f3) (c := yC3x0) (ids := []) (vs := [.bool true]) (by kernel_rfl) (by kernel_rfl) (by kernel_rfl) (w3p_p0 cp cq cm ps.length qs.length ms.length (intl ps) (intl qs) (intl ms) h4 hp) rfl rfl rfl
  by_cases hq : qs.length > 40
  · exact ExCall.of_run (fn := Tryz.f3) (c := yC3x0) (ids := []) (vs := [.bool true]) (by kernel_rfl) (by kernel_rfl) (by kernel_rfl) (w3q_p0 cp cq cm ps.length qs.length ms.length (intl ps) (intl qs) (intl ms) h4 hp hq) rfl rfl rfl
  by_cases hm : ms.length > 40
  · exact ExCall.of_run (fn := Tryz.f3) (c := yC3x0) (ids := []) (vs := [.bool true]) (by kernel_rfl) (by kernel_rfl) (by kernel_rfl) (w3m_p0 cp cq cm ps.length qs.length ms.length (intl ps) (intl qs) (intl ms) h4 hp hq hm) rfl rfl rfl
  obtain ⟨cax, h6⟩ := call6 cp cm ps ms (by omega) (by omega)
  obtain ⟨cbx, h7⟩ := call7 cp cm ps ms (by omega) (by omega)
  obtain ⟨cay, h8⟩ := call8 cp cq ps qs (by omega) (by omega)
  obtain ⟨cby, h9⟩ := call9 cp cq ps qs (by omega) (by omega)
  obtain ⟨caz, h10⟩ := call10 cp ps (by omega)
  obtain ⟨cbz, h11⟩ := call11 cp ps (by omega)
  have sx := call5 cax cbx (applyL ps ms) (by have := applyL_len ps ms; omega)
  have sy := call5 cay cby (composeL ps qs) (by have := composeL_le ps qs; omega)
  have sz := call5 caz cbz (inverseL ps) (by have := inverseL_le ps; omega)
  exact ExCall.of_run (fn := Tryz.f3) (c := yC3x0) (ids := []) (vs := [.bool true]) (by kernel_rfl) (by kernel_rfl) (by kernel_rfl)
    (w3_p0 cp cq cm ps.length qs.length ms.length (intl ps) (intl qs) (intl ms) h4 cax cbx cay cby caz cbz _ _ _ _ _ _ h6 h7 h8 h9 h10 h11 sx sy sz hp hq hm) rfl rfl rfl
end Go.Ax
