/- A loop over a list: one step a round, by induction on what is left. -/
import Derived.Test.YtllnomkinmhpfaaGreatPnWaD
namespace Go.Ax
set_option linter.unusedVariables false
variable {P : Program} {pol : Pol} {cx : Cx}

/-- Element by element, until one of them ends it. -/
def foldU {α σ ρ : Type} (f : Nat → α → σ → σ ⊕ ρ) : List α → Nat → σ → σ ⊕ ρ
  | [], _, acc => .inl acc
  | x :: r, i, acc => match f i x acc with
    | .inl acc' => foldU f r (i + 1) acc'
    | .inr y => .inr y

/-- What a loop ends with: its list is done (.inl), or a round left it (.inr). -/
def Ends (pol : Pol) (P : Program) (cx : Cx) (c : Code) (env : Env) (st : St) {σ ρ : Type} (ee : σ → Out × Env × St → Prop) (er : ρ → Out × Env × St → Prop) (r : σ ⊕ ρ) : Prop :=
  ∃ o e s, Run pol P cx c env st o e s ∧ match r with
    | .inl acc => ee acc (o, e, s)
    | .inr y => er y (o, e, s)

theorem loop_fold {α σ ρ : Type} {c a : Code} (hc : c = .loop a) (ht : tame a = true) (E : Nat → σ → Env) (S : Nat → σ → St) (inv : Nat → σ → Prop) (f : Nat → α → σ → σ ⊕ ρ) {ee : σ → Out × Env × St → Prop} {er : ρ → Out × Env × St → Prop} (xs : List α)
    (hstep : ∀ i x acc, xs[i]? = some x → inv i acc → match f i x acc with
      | .inl acc' => inv (i + 1) acc' ∧ Run pol P cx a (E i acc) (S i acc) .norm (E (i + 1) acc') (S (i + 1) acc')
      | .inr y => ∃ o e s, Run pol P cx a (E i acc) (S i acc) o e s ∧ o.isNorm = false ∧ er y (o, e, s))
    (hend : ∀ acc, inv xs.length acc → ∃ o e s, Run pol P cx a (E xs.length acc) (S xs.length acc) o e s ∧ o.isNorm = false ∧ ee acc (o, e, s)) :
    ∀ (rest : List α) (i : Nat) (acc : σ), xs.drop i = rest → i ≤ xs.length → inv i acc → Ends pol P cx c (E i acc) (S i acc) ee er (foldU f rest i acc)
  | [], i, acc, hd, hi, hv => by
    have hl : xs.length ≤ i := by
      have := congrArg List.length hd
      simp only [List.length_drop, List.length_nil] at this
      omega
    obtain rfl : i = xs.length := by omega
    obtain ⟨o, e, s, h1, h2, h3⟩ := hend acc hv
    exact ⟨o, e, s, Run.loopOut hc h2 h1, h3⟩
  | x :: rest, i, acc, hd, hi, hv => by
    have hx : xs[i]? = some x := by
      have := congrArg (fun l => l[0]?) hd
      simpa using this
    have hil : i < xs.length := (List.getElem?_eq_some_iff.1 hx).1
    have hd' : xs.drop (i + 1) = rest := by
      rw [← List.drop_drop, hd]
      rfl
    have h := hstep i x acc hx hv
    simp only [foldU]
    cases hf : f i x acc with
    | inl acc' =>
      rw [hf] at h
      obtain ⟨h1, h2⟩ := h
      obtain ⟨o, e, s, h3, h4⟩ := loop_fold hc ht E S inv f xs hstep hend rest (i + 1) acc' hd' hil h1
      exact ⟨o, e, s, Run.loop hc ht h2 h3, h4⟩
    | inr y =>
      rw [hf] at h
      obtain ⟨o, e, s, h1, h2, h3⟩ := h
      exact ⟨o, e, s, Run.loopOut hc h2 h1, h3⟩

theorem loop_list {α σ ρ : Type} {c a : Code} (hc : c = .loop a) (ht : tame a = true) (E : Nat → σ → Env) (S : Nat → σ → St) (inv : Nat → σ → Prop) (f : Nat → α → σ → σ ⊕ ρ) {ee : σ → Out × Env × St → Prop} {er : ρ → Out × Env × St → Prop} (xs : List α)
    (hstep : ∀ i x acc, xs[i]? = some x → inv i acc → match f i x acc with
      | .inl acc' => inv (i + 1) acc' ∧ Run pol P cx a (E i acc) (S i acc) .norm (E (i + 1) acc') (S (i + 1) acc')
      | .inr y => ∃ o e s, Run pol P cx a (E i acc) (S i acc) o e s ∧ o.isNorm = false ∧ er y (o, e, s))
    (hend : ∀ acc, inv xs.length acc → ∃ o e s, Run pol P cx a (E xs.length acc) (S xs.length acc) o e s ∧ o.isNorm = false ∧ ee acc (o, e, s)) (acc : σ) (h0 : inv 0 acc) : Ends pol P cx c (E 0 acc) (S 0 acc) ee er (foldU f xs 0 acc) :=
  loop_fold hc ht E S inv f xs hstep hend xs 0 acc rfl (Nat.zero_le _) h0

/-! ### rows of cells -/
/-- Elements laid side by side. -/
def flat {α : Type} (enc : α → List AVal) : List α → List AVal
  | [] => []
  | x :: r => enc x ++ flat enc r

theorem flat_drop {α : Type} {enc : α → List AVal} {n : Nat} (hn : ∀ x, (enc x).length = n) : ∀ (xs : List α) (i : Nat) (x : α), xs[i]? = some x → (flat enc xs).drop (i * n) = enc x ++ flat enc (xs.drop (i + 1))
  | [], i, x, h => by simp at h
  | y :: r, 0, x, h => by
    simp only [List.getElem?_cons_zero, Option.some.injEq] at h
    subst h
    simp [flat]
  | y :: r, i + 1, x, h => by
    simp only [List.getElem?_cons_succ] at h
    have ih := flat_drop hn r i x h
    simp only [flat, List.drop_succ_cons]
    have e1 : (i + 1) * n = n + i * n := by rw [Nat.add_mul]; omega
    have e2 : (enc y ++ flat enc r).drop n = flat enc r := by
      rw [List.drop_append_of_le_length (by rw [hn]; exact Nat.le_refl _), List.drop_of_length_le (by rw [hn]; exact Nat.le_refl _), List.nil_append]
    rw [← ih, e1, ← List.drop_drop, e2]

theorem flat_append {α : Type} {enc : α → List AVal} : ∀ (xs ys : List α), flat enc (xs ++ ys) = flat enc xs ++ flat enc ys
  | [], _ => rfl
  | x :: r, ys => by simp only [List.cons_append, flat, flat_append r ys, List.append_assoc]

theorem flat_len {α : Type} {enc : α → List AVal} {n : Nat} (hn : ∀ x, (enc x).length = n) : ∀ (xs : List α), (flat enc xs).length = xs.length * n
  | [] => by simp [flat]
  | x :: r => by simp only [flat, List.length_append, hn, flat_len hn r, List.length_cons, Nat.add_mul, Nat.one_mul]; omega
end Go.Ax
