/- SymmetryPermutes: the plain law. -/
import Derived.Test.YtlpeajiemppicaaGreatDoorPnWaL
import Derived.IntWalk
namespace Go.Ax
set_option linter.unusedVariables false

theorem intl_drop : ∀ (xs : List Int) (i : Nat) (x : Int), xs[i]? = some x → (intl xs).drop (i * 1) = .int .i64 x :: intl (xs.drop (i + 1))
  | [], i, x, h => by simp at h
  | y :: r, 0, x, h => by
    simp only [List.getElem?_cons_zero, Option.some.injEq] at h
    subst h
    rfl
  | y :: r, i + 1, x, h => by
    have := intl_drop r i x (by simpa using h)
    simpa [intl] using this

/-! ### which lists are permutations -/
def rangeFrom : Nat → List Int → Bool
  | _, [] => true
  | i, x :: r => (x == ((i : Nat) : Int)) && rangeFrom (i + 1) r

def hasAll (xs : List Int) : Bool := (List.range xs.length).all fun v => xs.any fun x => x == ((v : Nat) : Int)

theorem rangeFrom_iff : ∀ (l : List Int) (i : Nat), rangeFrom i l = true ↔ l = (List.range' i l.length).map fun k : Nat => (k : Int)
  | [], i => by simp [rangeFrom]
  | x :: r, i => by
    simp only [rangeFrom, Bool.and_eq_true, beq_iff_eq, List.length_cons, List.range'_succ, List.map_cons, List.cons.injEq, rangeFrom_iff r (i + 1)]

theorem perm_of_subset : ∀ {l1 l2 : List Int}, l1.Nodup → (∀ x ∈ l1, x ∈ l2) → l2.length ≤ l1.length → l1.Perm l2
  | [], l2, _, _, hl => by
    have : l2 = [] := List.length_eq_zero_iff.1 (by simpa using hl)
    subst this
    exact List.Perm.refl _
  | a :: t, l2, hn, hs, hl => by
    simp only [List.nodup_cons] at hn
    have ha : a ∈ l2 := hs a (by simp)
    have h1 := List.perm_cons_erase ha
    have hlen := List.length_erase_of_mem ha
    simp only [List.length_cons] at hl
    have h2 := perm_of_subset (l1 := t) (l2 := l2.erase a) hn.2 (fun x hx => by
      have hne : x ≠ a := fun e => hn.1 (e ▸ hx)
      exact (List.mem_erase_of_ne hne).2 (hs x (by simp [hx]))) (by omega)
    exact (h2.cons a).trans h1.symm

theorem castRange_sorted (n : Nat) : ((List.range' 0 n).map fun k : Nat => (k : Int)).Pairwise (· ≤ ·) := by
  rw [List.pairwise_map]
  exact (List.pairwise_lt_range' (s := 0) (n := n)).imp fun h => by omega

theorem castRange_nodup (n : Nat) : ((List.range' 0 n).map fun k : Nat => (k : Int)).Nodup := by
  unfold List.Nodup
  rw [List.pairwise_map]
  exact (List.pairwise_lt_range' (s := 0) (n := n)).imp fun h => by omega

theorem hasAll_perm {xs : List Int} (h : hasAll xs = true) : ((List.range' 0 xs.length).map fun k : Nat => (k : Int)).Perm xs := by
  refine perm_of_subset (castRange_nodup _) (fun x hx => ?_) (by simp)
  obtain ⟨v, hv, rfl⟩ := List.mem_map.1 hx
  have hv' : v < xs.length := by
    have := List.mem_range'_1.1 hv
    omega
  have := List.all_eq_true.1 h v (List.mem_range.2 hv')
  obtain ⟨y, hy, e⟩ := List.any_eq_true.1 this
  have : y = (v : Int) := by simpa using e
  exact this ▸ hy

theorem valid_eq (xs : List Int) : rangeFrom 0 (isort xs) = hasAll xs := by
  rw [Bool.eq_iff_iff, rangeFrom_iff, isort_length]
  constructor
  · intro h
    refine List.all_eq_true.2 fun v hv => List.any_eq_true.2 ⟨(v : Int), ?_, by simp⟩
    refine (isort_perm xs).mem_iff.1 ?_
    rw [h]
    exact List.mem_map.2 ⟨v, by rw [List.mem_range'_1]; have := List.mem_range.1 hv; omega, rfl⟩
  · intro h
    exact sorted_unique ((isort_perm xs).trans (hasAll_perm h).symm) (isort_sorted xs) (castRange_sorted _)

/-- The numbers of a permutation. -/
def nats (xs : List Int) : List Nat := xs.map Int.toNat

theorem nats_at {xs : List Int} (h : hasAll xs = true) {i : Nat} (hi : i < xs.length) : ∃ k : Nat, xs[i]? = some (k : Int) ∧ (nats xs)[i]? = some k ∧ k < xs.length := by
  have hm : xs[i] ∈ xs := List.getElem_mem hi
  have := (hasAll_perm h).mem_iff.2 hm
  obtain ⟨k, hk, e⟩ := List.mem_map.1 this
  have hk' := List.mem_range'_1.1 hk
  refine ⟨k, by rw [List.getElem?_eq_getElem hi, e], ?_, by omega⟩
  unfold nats
  rw [List.getElem?_map, List.getElem?_eq_getElem hi, ← e]
  simp

/-! ### folds -/
/-- With a clock beside it. -/
def clked {α σ ρ : Type} (d : Nat) (f : Nat → α → σ → σ ⊕ ρ) (i : Nat) (x : α) (p : Nat × σ) : (Nat × σ) ⊕ ρ :=
  match f i x p.2 with
  | .inl s => .inl (p.1 + d, s)
  | .inr y => .inr y

theorem foldU_clked {α σ ρ : Type} (d : Nat) (f : Nat → α → σ → σ ⊕ ρ) : ∀ (xs : List α) (i c : Nat) (s : σ), foldU (clked d f) xs i (c, s) = match foldU f xs i s with
    | .inl s' => .inl (c + d * xs.length, s')
    | .inr y => .inr y
  | [], i, c, s => by simp [foldU]
  | x :: r, i, c, s => by
    simp only [foldU, clked]
    cases h : f i x s with
    | inr y => rfl
    | inl s1 =>
      simp only [foldU_clked d f r (i + 1) (c + d) s1]
      cases h2 : foldU f r (i + 1) s1 with
      | inr y => rfl
      | inl s2 =>
        simp only [List.length_cons, Nat.mul_add, Nat.mul_one]
        rw [Nat.add_assoc, Nat.add_comm d]

/-- Place after place is set, unless its number is too large. -/
def apF (ks : List Nat) (l : Nat) (i : Nat) (x : Int) (oc : List Int) : List Int ⊕ Unit :=
  match ks[i]? with
  | some k => cond (decide (k < l)) (.inl (oc.set k x)) (.inr ())
  | none => .inr ()

def applyL (ps ms : List Int) : List Int :=
  cond (hasAll ps) (cond (decide (ps.length < ms.length)) [] (match foldU (apF (nats ps) ms.length) ms 0 (List.replicate ms.length 0) with
    | .inl o => o
    | .inr _ => [])) []

def coF (ps : List Int) (i : Nat) (y : Int) (oc : List Int) : List Int ⊕ Empty := .inl (oc.set i (ps.getD y.toNat 0))
def coG (ps : List Int) (i : Nat) (y : Int) (oc : List Int) : List Int ⊕ Empty := .inl (oc ++ [ps.getD y.toNat 0])

def composeL (ps qs : List Int) : List Int :=
  cond (hasAll ps && hasAll qs && (ps.length == qs.length)) (qs.map fun y => ps.getD y.toNat 0) []

theorem foldU_coF (ps : List Int) : ∀ (qs : List Int) (pre : List Int), foldU (coF ps) qs pre.length (pre ++ List.replicate qs.length 0) = .inl (pre ++ qs.map fun y => ps.getD y.toNat 0)
  | [], pre => by simp [foldU]
  | y :: r, pre => by
    have h := foldU_coF ps r (pre ++ [ps.getD y.toNat 0])
    simp only [List.length_append, List.length_cons, List.length_nil, Nat.zero_add, List.append_assoc, List.cons_append, List.nil_append] at h
    simp only [foldU, coF, List.length_cons, List.replicate_succ, List.map_cons]
    rw [← h]
    congr 1
    rw [List.set_append_right _ _ (Nat.le_refl _)]
    simp

theorem foldU_coG (ps : List Int) : ∀ (qs : List Int) (i : Nat) (pre : List Int), foldU (coG ps) qs i pre = .inl (pre ++ qs.map fun y => ps.getD y.toNat 0)
  | [], i, pre => by simp [foldU]
  | y :: r, i, pre => by
    simp only [foldU, coG, foldU_coG ps r (i + 1), List.map_cons, List.append_assoc, List.cons_append, List.nil_append]

def inF (i : Nat) (y : Int) (oc : List Int) : List Int ⊕ Empty := .inl (oc.set y.toNat ((i : Nat) : Int))

def inverseL (ps : List Int) : List Int :=
  cond (hasAll ps) (match foldU inF ps 0 (List.replicate ps.length 0) with
    | .inl o => o
    | .inr y => y.elim) []

theorem wrapY {i : Nat} (h : i < 1000000000000000) : IntKind.i64.wrap (((i : Nat) : Int) + 1) = ((i + 1 : Nat) : Int) := by
  rw [IntWalk.i64_in _ ⟨by omega, by omega⟩]; omega
end Go.Ax
