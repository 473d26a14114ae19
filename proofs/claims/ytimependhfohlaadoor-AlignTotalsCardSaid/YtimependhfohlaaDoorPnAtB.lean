/- AlignTotals: what 'align.Total' (6) and 'petrinetref51.Total' (7) answer: the loops by induction. -/
import Derived.Test.YtimependhfohlaaDoorPnAtA2
import Derived.IntWalk
namespace Go.Ax
open Go.Proofs
set_option linter.unusedVariables false
set_option linter.unusedSimpArgs false
set_option maxRecDepth 100000

/-- A list of moves as cells. -/
def mcells : List (Int × Int) → List AVal
  | [] => []
  | p :: r => .int .i64 p.1 :: .int .i64 p.2 :: mcells r

/-- The sum of the costs, none where a move is of no kind. -/
def tot (log net : Int) : Int → List (Int × Int) → Option Int
  | s, [] => some s
  | s, p :: r => if p.1 = 1 ∨ p.1 = 4 then tot log net s r else if p.1 = 2 then tot log net (s + log) r else if p.1 = 3 then tot log net (s + net) r else none

abbrev cx6 : Cx := ⟨6, 0, 56, none⟩
abbrev cx7 : Cx := ⟨7, 0, 53, none⟩
abbrev row6 (log net : Int) : Id × ABlk := (.v 2, .row 0 0 2 false [.int .i64 log, .int .i64 net])

theorem wrap_in {x : Int} (h0 : 0 ≤ x) (h1 : x ≤ 100000000) : IntKind.i64.wrap x = x := IntWalk.i64_in x ⟨by omega, by omega⟩

section
variable (log net : Int) (len : Nat) (cxb : Bool) (cells : List AVal)
variable (hl0 : 0 ≤ log) (hl1 : log ≤ 1000) (hn0 : 0 ≤ net) (hn1 : net ≤ 1000) (hlen : len ≤ 10000)

def Ends6 (i : Nat) (s : Int) (c : Nat) (pre : Heap) (r : Option Int) : Prop :=
  ∃ st1, match r with
    | some r => Run polT Tryd.prog cx6 (sub [true, true, true, false, true, false] tB6) [(33, .int .i64 ((i : Nat) : Int)), (32, .int .i64 ((len : Nat) : Int)), (31, .fsl false cxb len cells), (5, .int .i64 s), (4, .int .i64 0), (2, .ptr (.v 2) 0 0 0)] ⟨c, 56, 0, pre ++ [row6 log net]⟩ (.exit 0) [(5, .int .i64 r), (4, .int .i64 0)] st1
    | none => Run polT Tryd.prog cx6 (sub [true, true, true, false, true, false] tB6) [(33, .int .i64 ((i : Nat) : Int)), (32, .int .i64 ((len : Nat) : Int)), (31, .fsl false cxb len cells), (5, .int .i64 s), (4, .int .i64 0), (2, .ptr (.v 2) 0 0 0)] ⟨c, 56, 0, pre ++ [row6 log net]⟩ .ret [(4, .int .i64 (-1))] st1

theorem Ends6.step {i i' : Nat} {s s' : Int} {c c' : Nat} {pre pre' : Heap} {r : Option Int} (hi : i' = i + 1)
    (h1 : Run polT Tryd.prog cx6 (sub [true, true, true, false, true, false, false] tB6) [(33, .int .i64 ((i : Nat) : Int)), (32, .int .i64 ((len : Nat) : Int)), (31, .fsl false cxb len cells), (5, .int .i64 s), (4, .int .i64 0), (2, .ptr (.v 2) 0 0 0)] ⟨c, 56, 0, pre ++ [row6 log net]⟩ .norm [(33, .int .i64 ((i' : Nat) : Int)), (32, .int .i64 ((len : Nat) : Int)), (31, .fsl false cxb len cells), (5, .int .i64 s'), (4, .int .i64 0), (2, .ptr (.v 2) 0 0 0)] ⟨c', 56, 0, pre' ++ [row6 log net]⟩)
    (h2 : Ends6 log net len cxb cells i' s' c' pre' r) : Ends6 log net len cxb cells i s c pre r := by
  obtain ⟨st1, h2⟩ := h2
  refine ⟨st1, ?_⟩
  cases r with
  | some r => exact Run.loop (a := sub [true, true, true, false, true, false, false] tB6) (by kernel_rfl) (by kernel_rfl) h1 h2
  | none => exact Run.loop (a := sub [true, true, true, false, true, false, false] tB6) (by kernel_rfl) (by kernel_rfl) h1 h2

include hl0 hl1 hn0 hn1 hlen in
theorem loop6 : ∀ (rest : List (Int × Int)) (i : Nat) (s : Int) (c : Nat) (pre : Heap), cells.drop (i * 2) = mcells rest → i + rest.length = len → 0 ≤ s → s ≤ 1000 * (i : Int) → (pre = [] ∨ ∃ r, pre = [(.v 7, r)]) → Ends6 log net len cxb cells i s c pre (tot log net s rest)
  | [], i, s, c, pre, hd, hi, hs0, hs1, hp => by
    have hi' : ¬ i < len := by simp only [List.length_nil] at hi; omega
    rcases hp with rfl | ⟨r, rfl⟩
    · exact ⟨_, Run.loopOut (a := sub [true, true, true, false, true, false, false] tB6) (by kernel_rfl) rfl (f6ax_p0 log net s 0 0 i len c cxb cells [] hi')⟩
    · exact ⟨_, Run.loopOut (a := sub [true, true, true, false, true, false, false] tB6) (by kernel_rfl) rfl (f6bx_p0 log net s 0 0 i len c cxb cells [] r hi')⟩
  | (k, t) :: rest, i, s, c, pre, hd, hi, hs0, hs1, hp => by
    simp only [List.length_cons] at hi
    have hi' : i < len := by omega
    have hw : IntKind.i64.wrap (((i : Nat) : Int) + 1) = ((i + 1 : Nat) : Int) := by rw [wrap_in (by omega) (by omega)]; omega
    have hd' : cells.drop ((i + 1) * 2) = mcells rest := by
      have h2 : (cells.drop (i * 2)).drop 2 = mcells rest := by rw [hd]; rfl
      rw [List.drop_drop] at h2
      rw [← h2]
      congr 1
      omega
    have next : ∀ (s' : Int) (r : ABlk), 0 ≤ s' → s' ≤ s + 1000 → Ends6 log net len cxb cells (i + 1) s' (c + 1) [(.v 7, r)] (tot log net s' rest) := fun s' r h0 h1 =>
      loop6 rest (i + 1) s' (c + 1) [(.v 7, r)] hd' (by omega) h0 (by omega) (.inr ⟨r, rfl⟩)
    have hsl : IntKind.i64.wrap (s + log) = s + log := wrap_in (by omega) (by omega)
    have hsn : IntKind.i64.wrap (s + net) = s + net := wrap_in (by omega) (by omega)
    simp only [tot]
    rcases hp with rfl | ⟨r, rfl⟩
    · by_cases h1 : k = 1
      · subst h1
        have hb := f6a_p4 log net s 1 t i len c cxb cells (mcells rest) hi' hd rfl
        rw [hw] at hb
        simp only [true_or, if_true]
        exact Ends6.step log net len cxb cells (pre := []) (pre' := [(_, _)]) rfl hb (next s _ hs0 (by omega))
      by_cases h4 : k = 4
      · subst h4
        have hb := f6a_p3 log net s 4 t i len c cxb cells (mcells rest) hi' hd rfl rfl
        rw [hw] at hb
        simp only [or_true, if_true]
        exact Ends6.step log net len cxb cells (pre := []) (pre' := [(_, _)]) rfl hb (next s _ hs0 (by omega))
      by_cases h2 : k = 2
      · subst h2
        have hb := f6a_p2 log net s 2 t i len c cxb cells (mcells rest) hi' hd rfl rfl rfl
        rw [hw, hsl] at hb
        rw [if_neg (by omega), if_pos rfl]
        exact Ends6.step log net len cxb cells (pre := []) (pre' := [(_, _)]) rfl hb (next (s + log) _ (by omega) (by omega))
      by_cases h3 : k = 3
      · subst h3
        have hb := f6a_p1 log net s 3 t i len c cxb cells (mcells rest) hi' hd rfl rfl rfl rfl
        rw [hw, hsn] at hb
        rw [if_neg (by omega), if_neg (by omega), if_pos rfl]
        exact Ends6.step log net len cxb cells (pre := []) (pre' := [(_, _)]) rfl hb (next (s + net) _ (by omega) (by omega))
      · rw [if_neg (by omega), if_neg h2, if_neg h3]
        exact ⟨_, Run.loopOut (a := sub [true, true, true, false, true, false, false] tB6) (by kernel_rfl) rfl (f6a_p0 log net s k t i len c cxb cells (mcells rest) hi' hd (by simpa using h1) (by simpa using h4) (by simpa using h2) (by simpa using h3))⟩
    · by_cases h1 : k = 1
      · subst h1
        have hb := f6b_p4 log net s 1 t i len c cxb cells (mcells rest) r hi' hd rfl
        rw [hw] at hb
        simp only [true_or, if_true]
        exact Ends6.step log net len cxb cells (pre := [(_, _)]) (pre' := [(_, _)]) rfl hb (next s _ hs0 (by omega))
      by_cases h4 : k = 4
      · subst h4
        have hb := f6b_p3 log net s 4 t i len c cxb cells (mcells rest) r hi' hd rfl rfl
        rw [hw] at hb
        simp only [or_true, if_true]
        exact Ends6.step log net len cxb cells (pre := [(_, _)]) (pre' := [(_, _)]) rfl hb (next s _ hs0 (by omega))
      by_cases h2 : k = 2
      · subst h2
        have hb := f6b_p2 log net s 2 t i len c cxb cells (mcells rest) r hi' hd rfl rfl rfl
        rw [hw, hsl] at hb
        rw [if_neg (by omega), if_pos rfl]
        exact Ends6.step log net len cxb cells (pre := [(_, _)]) (pre' := [(_, _)]) rfl hb (next (s + log) _ (by omega) (by omega))
      by_cases h3 : k = 3
      · subst h3
        have hb := f6b_p1 log net s 3 t i len c cxb cells (mcells rest) r hi' hd rfl rfl rfl rfl
        rw [hw, hsn] at hb
        rw [if_neg (by omega), if_neg (by omega), if_pos rfl]
        exact Ends6.step log net len cxb cells (pre := [(_, _)]) (pre' := [(_, _)]) rfl hb (next (s + net) _ (by omega) (by omega))
      · rw [if_neg (by omega), if_neg h2, if_neg h3]
        exact ⟨_, Run.loopOut (a := sub [true, true, true, false, true, false, false] tB6) (by kernel_rfl) rfl (f6b_p0 log net s k t i len c cxb cells (mcells rest) r hi' hd (by simpa using h1) (by simpa using h4) (by simpa using h2) (by simpa using h3))⟩

def Ends7 (i : Nat) (s : Int) (r : Option Int) : Prop :=
  ∃ st1, match r with
    | some r => Run polT Tryd.prog cx7 (sub [true, true, true, false, true, false] tB7) [(8, .int .i64 ((i : Nat) : Int)), (7, .int .i64 s), (6, .int .i64 0), (2, .fsl false cxb len cells), (1, .int .i64 net), (0, .int .i64 log)] ⟨0, 53, 0, []⟩ (.exit 0) [(7, .int .i64 r), (6, .int .i64 0)] st1
    | none => Run polT Tryd.prog cx7 (sub [true, true, true, false, true, false] tB7) [(8, .int .i64 ((i : Nat) : Int)), (7, .int .i64 s), (6, .int .i64 0), (2, .fsl false cxb len cells), (1, .int .i64 net), (0, .int .i64 log)] ⟨0, 53, 0, []⟩ .ret [(6, .int .i64 (-1))] st1

theorem Ends7.step {i i' : Nat} {s s' : Int} {r : Option Int}
    (h1 : Run polT Tryd.prog cx7 (sub [true, true, true, false, true, false, false] tB7) [(8, .int .i64 ((i : Nat) : Int)), (7, .int .i64 s), (6, .int .i64 0), (2, .fsl false cxb len cells), (1, .int .i64 net), (0, .int .i64 log)] ⟨0, 53, 0, []⟩ .norm [(8, .int .i64 ((i' : Nat) : Int)), (7, .int .i64 s'), (6, .int .i64 0), (2, .fsl false cxb len cells), (1, .int .i64 net), (0, .int .i64 log)] ⟨0, 53, 0, []⟩)
    (h2 : Ends7 log net len cxb cells i' s' r) : Ends7 log net len cxb cells i s r := by
  obtain ⟨st1, h2⟩ := h2
  refine ⟨st1, ?_⟩
  cases r with
  | some r => exact Run.loop (a := sub [true, true, true, false, true, false, false] tB7) (by kernel_rfl) (by kernel_rfl) h1 h2
  | none => exact Run.loop (a := sub [true, true, true, false, true, false, false] tB7) (by kernel_rfl) (by kernel_rfl) h1 h2

include hl0 hl1 hn0 hn1 hlen in
theorem loop7 : ∀ (rest : List (Int × Int)) (i : Nat) (s : Int), cells.drop (i * 2) = mcells rest → i + rest.length = len → 0 ≤ s → s ≤ 1000 * (i : Int) → Ends7 log net len cxb cells i s (tot log net s rest)
  | [], i, s, hd, hi, hs0, hs1 => by
    have hi' : ¬ i < len := by simp only [List.length_nil] at hi; omega
    exact ⟨_, Run.loopOut (a := sub [true, true, true, false, true, false, false] tB7) (by kernel_rfl) rfl (f7ax_p0 log net s 0 0 i len cxb cells [] hi')⟩
  | (k, t) :: rest, i, s, hd, hi, hs0, hs1 => by
    simp only [List.length_cons] at hi
    have hi' : i < len := by omega
    have hw : IntKind.i64.wrap (((i : Nat) : Int) + 1) = ((i + 1 : Nat) : Int) := by rw [wrap_in (by omega) (by omega)]; omega
    have hd' : cells.drop ((i + 1) * 2) = mcells rest := by
      have h2 : (cells.drop (i * 2)).drop 2 = mcells rest := by rw [hd]; rfl
      rw [List.drop_drop] at h2
      rw [← h2]
      congr 1
      omega
    have next : ∀ (s' : Int), 0 ≤ s' → s' ≤ s + 1000 → Ends7 log net len cxb cells (i + 1) s' (tot log net s' rest) := fun s' h0 h1 =>
      loop7 rest (i + 1) s' hd' (by omega) h0 (by omega)
    have hsl : IntKind.i64.wrap (s + log) = s + log := wrap_in (by omega) (by omega)
    have hsn : IntKind.i64.wrap (s + net) = s + net := wrap_in (by omega) (by omega)
    simp only [tot]
    by_cases h2 : k = 2
    · subst h2
      have hb := f7a_p4 log net s 2 t i len cxb cells (mcells rest) hi' hd rfl
      rw [hw, hsl] at hb
      rw [if_neg (by omega), if_pos rfl]
      exact Ends7.step log net len cxb cells hb (next (s + log) (by omega) (by omega))
    by_cases h3 : k = 3
    · subst h3
      have hb := f7a_p3 log net s 3 t i len cxb cells (mcells rest) hi' hd rfl rfl
      rw [hw, hsn] at hb
      rw [if_neg (by omega), if_neg (by omega), if_pos rfl]
      exact Ends7.step log net len cxb cells hb (next (s + net) (by omega) (by omega))
    by_cases h1 : k = 1
    · subst h1
      have hb := f7a_p2 log net s 1 t i len cxb cells (mcells rest) hi' hd rfl rfl rfl
      rw [hw] at hb
      simp only [true_or, if_true]
      exact Ends7.step log net len cxb cells hb (next s hs0 (by omega))
    by_cases h4 : k = 4
    · subst h4
      have hb := f7a_p1 log net s 4 t i len cxb cells (mcells rest) hi' hd rfl rfl rfl rfl
      rw [hw] at hb
      simp only [or_true, if_true]
      exact Ends7.step log net len cxb cells hb (next s hs0 (by omega))
    · rw [if_neg (by omega), if_neg h2, if_neg h3]
      exact ⟨_, Run.loopOut (a := sub [true, true, true, false, true, false, false] tB7) (by kernel_rfl) rfl (f7a_p0 log net s k t i len cxb cells (mcells rest) hi' hd (by simpa using h2) (by simpa using h3) (by simpa using h1) (by simpa using h4))⟩
end

/-- What both functions answer. -/
def total (log net : Int) (ms : List (Int × Int)) : Int :=
  if log < 0 ∨ log > 1000 ∨ net < 0 ∨ net > 1000 ∨ ms.length > 10000 then -1 else (tot log net 0 ms).getD (-1)

theorem call6 (log net : Int) (cxb : Bool) (ms : List (Int × Int)) : ExCall polT Tryd.prog 6 [.agg [.int .i64 log, .int .i64 net], .fsl false cxb ms.length (mcells ms)] (.int .i64 (total log net ms)) := by
  have fin : ∀ (r : Int) (st1 : St), Run polT Tryd.prog cx6 (sub [] tB6) [(0, .agg [.int .i64 log, .int .i64 net]), (1, .fsl false cxb ms.length (mcells ms))] ⟨0, 56, 0, []⟩ .ret [(4, .int .i64 r)] st1 → ExCall polT Tryd.prog 6 [.agg [.int .i64 log, .int .i64 net], .fsl false cxb ms.length (mcells ms)] (.int .i64 r) := fun r st1 h =>
    ExCall.of_run (fn := Tryd.f6) (c := sub [] tB6) (ids := []) (vs := [.int .i64 r]) (by kernel_rfl) (by kernel_rfl) (by kernel_rfl) h rfl rfl rfl
  unfold total
  by_cases h1 : log < 0
  · rw [if_pos (.inl h1)]; exact fin _ _ (f6f_p4 log net ms.length cxb (mcells ms) (by simpa using h1))
  by_cases h2 : log > 1000
  · rw [if_pos (.inr (.inl h2))]; exact fin _ _ (f6f_p3 log net ms.length cxb (mcells ms) (by simpa using h1) (by simpa using h2))
  by_cases h3 : net < 0
  · rw [if_pos (.inr (.inr (.inl h3)))]; exact fin _ _ (f6f_p2 log net ms.length cxb (mcells ms) (by simpa using h1) (by simpa using h2) (by simpa using h3))
  by_cases h4 : net > 1000
  · rw [if_pos (.inr (.inr (.inr (.inl h4))))]; exact fin _ _ (f6f_p1 log net ms.length cxb (mcells ms) (by simpa using h1) (by simpa using h2) (by simpa using h3) (by simpa using h4))
  by_cases h5 : ms.length > 10000
  · rw [if_pos (.inr (.inr (.inr (.inr h5))))]; exact fin _ _ (f6f_p0 log net ms.length cxb (mcells ms) (by simpa using h1) (by simpa using h2) (by simpa using h3) (by simpa using h4) (by apply decide_eq_true; omega))
  rw [if_neg (by omega)]
  have hl := loop6 log net ms.length cxb (mcells ms) (by omega) (by omega) (by omega) (by omega) (by omega) ms 0 0 1 [] rfl (by omega) (by omega) (by omega) (.inl rfl)
  obtain ⟨st1, hl⟩ := hl
  cases ht : tot log net 0 ms with
  | some r =>
    rw [ht] at hl
    exact fin _ _ (f6mn_p0 log net ms.length cxb (mcells ms) r st1 (Run.blockExit (id := 0) (a := sub [true, true, true, false, true, false] tB6) (by kernel_rfl) hl) (by simpa using h1) (by simpa using h2) (by simpa using h3) (by simpa using h4) (by apply decide_eq_false; omega))
  | none =>
    rw [ht] at hl
    exact fin _ _ (f6mr_p0 log net ms.length cxb (mcells ms) 0 st1 (Run.block (id := 0) (a := sub [true, true, true, false, true, false] tB6) (by kernel_rfl) rfl hl) (by simpa using h1) (by simpa using h2) (by simpa using h3) (by simpa using h4) (by apply decide_eq_false; omega))

theorem call7 (log net : Int) (cxb : Bool) (ms : List (Int × Int)) : ExCall polT Tryd.prog 7 [.int .i64 log, .int .i64 net, .fsl false cxb ms.length (mcells ms)] (.int .i64 (total log net ms)) := by
  have fin : ∀ (r : Int) (st1 : St), Run polT Tryd.prog cx7 (sub [] tB7) [(0, .int .i64 log), (1, .int .i64 net), (2, .fsl false cxb ms.length (mcells ms))] ⟨0, 53, 0, []⟩ .ret [(6, .int .i64 r)] st1 → ExCall polT Tryd.prog 7 [.int .i64 log, .int .i64 net, .fsl false cxb ms.length (mcells ms)] (.int .i64 r) := fun r st1 h =>
    ExCall.of_run (fn := Tryd.f7) (c := sub [] tB7) (ids := []) (vs := [.int .i64 r]) (by kernel_rfl) (by kernel_rfl) (by kernel_rfl) h rfl rfl rfl
  unfold total
  by_cases h1 : log < 0
  · rw [if_pos (.inl h1)]; exact fin _ _ (f7f_p4 log net ms.length cxb (mcells ms) (by simpa using h1))
  by_cases h2 : log > 1000
  · rw [if_pos (.inr (.inl h2))]; exact fin _ _ (f7f_p3 log net ms.length cxb (mcells ms) (by simpa using h1) (by simpa using h2))
  by_cases h3 : net < 0
  · rw [if_pos (.inr (.inr (.inl h3)))]; exact fin _ _ (f7f_p2 log net ms.length cxb (mcells ms) (by simpa using h1) (by simpa using h2) (by simpa using h3))
  by_cases h4 : net > 1000
  · rw [if_pos (.inr (.inr (.inr (.inl h4))))]; exact fin _ _ (f7f_p1 log net ms.length cxb (mcells ms) (by simpa using h1) (by simpa using h2) (by simpa using h3) (by simpa using h4))
  by_cases h5 : ms.length > 10000
  · rw [if_pos (.inr (.inr (.inr (.inr h5))))]; exact fin _ _ (f7f_p0 log net ms.length cxb (mcells ms) (by simpa using h1) (by simpa using h2) (by simpa using h3) (by simpa using h4) (by apply decide_eq_true; omega))
  rw [if_neg (by omega)]
  have hl := loop7 log net ms.length cxb (mcells ms) (by omega) (by omega) (by omega) (by omega) (by omega) ms 0 0 rfl (by omega) (by omega) (by omega)
  obtain ⟨st1, hl⟩ := hl
  cases ht : tot log net 0 ms with
  | some r =>
    rw [ht] at hl
    exact fin _ _ (f7mn_p0 log net ms.length cxb (mcells ms) r st1 (Run.blockExit (id := 0) (a := sub [true, true, true, false, true, false] tB7) (by kernel_rfl) hl) (by simpa using h1) (by simpa using h2) (by simpa using h3) (by simpa using h4) (by apply decide_eq_false; omega))
  | none =>
    rw [ht] at hl
    exact fin _ _ (f7mr_p0 log net ms.length cxb (mcells ms) 0 st1 (Run.block (id := 0) (a := sub [true, true, true, false, true, false] tB7) (by kernel_rfl) rfl hl) (by simpa using h1) (by simpa using h2) (by simpa using h3) (by simpa using h4) (by apply decide_eq_false; omega))

/-- The law, given that its examples stand. -/
theorem call3 (log net : Int) (cxb : Bool) (ms : List (Int × Int)) (h5 : ExCall polT Tryd.prog 5 [] (.bool true)) : ExCall polT Tryd.prog 3 [.agg [.int .i64 log, .int .i64 net], .fsl false cxb ms.length (mcells ms)] (.bool true) := by
  have fin : ∀ (st1 : St), Run polT Tryd.prog ⟨3, 0, 22, none⟩ (sub [] tB3) [(0, .agg [.int .i64 log, .int .i64 net]), (1, .fsl false cxb ms.length (mcells ms))] ⟨0, 22, 0, []⟩ .ret [(4, .bool true)] st1 → ExCall polT Tryd.prog 3 [.agg [.int .i64 log, .int .i64 net], .fsl false cxb ms.length (mcells ms)] (.bool true) := fun st1 h =>
    ExCall.of_run (fn := Tryd.f3) (c := sub [] tB3) (ids := []) (vs := [.bool true]) (by kernel_rfl) (by kernel_rfl) (by kernel_rfl) h rfl rfl rfl
  by_cases h1 : ms.length > 10100
  · exact fin _ (f3m_p1 log net ms.length cxb (mcells ms) (total log net ms) (fun _ => call6 log net cxb ms) (fun _ => call7 log net cxb ms) h5 (by apply decide_eq_true; omega))
  · exact fin _ (f3m_p0 log net ms.length cxb (mcells ms) (total log net ms) (fun _ => call6 log net cxb ms) (fun _ => call7 log net cxb ms) h5 (by apply decide_eq_false; omega))
end Go.Ax
