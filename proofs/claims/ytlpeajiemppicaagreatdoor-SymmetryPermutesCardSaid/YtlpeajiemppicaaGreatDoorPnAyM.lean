/- Regions whose order is drawn: what the pass in listing order shows. -/
import Derived.Test.YtlpeajiemppicaaGreatDoorPnAyJ
namespace Go.Ax
set_option linter.unusedVariables false
set_option linter.unusedSimpArgs false
variable {P : Program} {pol : Pol}

/-- The last loud item ahead of place j. -/
def lastL : Option DItem → List DItem → Nat → Option DItem
  | acc, _, 0 => acc
  | acc, [], _ + 1 => acc
  | acc, y :: r, j + 1 => lastL (cond y.loud (some y) acc) r j

def stOf (st : St) : Option DItem → St
  | none => st
  | some y => y.st'

theorem lastL_some : ∀ {items : List DItem} {acc : Option DItem} {j : Nat} {y : DItem}, lastL acc items j = some y →
    (acc = some y ∧ ∀ m z, m < j → items[m]? = some z → z.loud = false) ∨ (y.loud = true ∧ ∃ k, k < j ∧ items[k]? = some y ∧ ∀ m z, k < m → m < j → items[m]? = some z → z.loud = false)
  | items, acc, 0, y, h => .inl ⟨by cases items <;> exact h, fun m z hm => by omega⟩
  | [], acc, j + 1, y, h => .inl ⟨h, fun m z hm hz => by simp at hz⟩
  | x :: r, acc, j + 1, y, h => by
    simp only [lastL] at h
    rcases lastL_some h with ⟨h1, h2⟩ | ⟨h1, k, h2, h3, h4⟩
    · cases hx : x.loud with
      | true =>
        rw [hx] at h1
        simp only [cond_true, Option.some.injEq] at h1
        subst h1
        exact .inr ⟨hx, 0, by omega, rfl, fun m z hk hm hz => by
          cases m with
          | zero => omega
          | succ m => exact h2 m z (by omega) (by simpa using hz)⟩
      | false =>
        rw [hx] at h1
        exact .inl ⟨h1, fun m z hm hz => by
          cases m with
          | zero => simp only [List.getElem?_cons_zero, Option.some.injEq] at hz; subst hz; exact hx
          | succ m => exact h2 m z (by omega) (by simpa using hz)⟩
    · exact .inr ⟨h1, k + 1, by omega, by simpa using h3, fun m z hk hm hz => by
        cases m with
        | zero => omega
        | succ m => exact h4 m z (by omega) (by omega) (by simpa using hz)⟩

theorem lastL_none : ∀ {items : List DItem} {acc : Option DItem} {j : Nat}, lastL acc items j = none → acc = none ∧ ∀ m z, m < j → items[m]? = some z → z.loud = false
  | items, acc, 0, h => ⟨by cases items <;> exact h, fun m z hm => by omega⟩
  | [], acc, j + 1, h => ⟨h, fun m z hm hz => by simp at hz⟩
  | x :: r, acc, j + 1, h => by
    simp only [lastL] at h
    obtain ⟨h1, h2⟩ := lastL_none h
    cases hx : x.loud with
    | true => rw [hx] at h1; cases h1
    | false =>
      rw [hx] at h1
      exact ⟨h1, fun m z hm hz => by
        cases m with
        | zero => simp only [List.getElem?_cons_zero, Option.some.injEq] at hz; subst hz; exact hx
        | succ m => exact h2 m z (by omega) (by simpa using hz)⟩

structure SeqF (rec : Task → Option Res) (pol : Pol) (cx : Cx) (P : Program) (ops : Array Oper) (c0 : Nat) (vars : List DVar) (i : Nat) (acc : Option DItem) (st0 : St) (l : List Oper) (env : Env) (items : List DItem) (env' : Env) (st' : St) : Prop where
  len : items.length = l.length
  idx : ∀ (j : Nat) (x : DItem), items[j]? = some x → x.i = i + j ∧ l[j]? = some x.o
  back : ∀ (j : Nat) (x : DItem), items[j]? = some x → ∀ e ∈ x.o.after, Region.binds .any e = true → e.on < i + j
  dst : ∀ (j : Nat) (x : DItem) (d : Nat), items[j]? = some x → x.o.dst = some d → d < cx.nt
  chain : ∀ (j : Nat) (x : DItem), items[j]? = some x → x.loud = true → loudOk rec pol cx P ops c0 vars x (stOf st0 (lastL acc items j)) = true ∧ ∀ y, lastL acc items j = some y → reach ops x.o y.i = true
  val : ∀ (j : Nat) (x : DItem), items[j]? = some x → (∃ y, dvar P (i + j) x.o = some y ∧ x.v = .ptr (.v (cx.base + y.d)) (c0 + (i + j)) (c0 + (i + j)) 0 ∧ x.loud = false) ∨
    (dvar P (i + j) x.o = none ∧ adraw1 rec pol cx P ops x.env (stOf st0 (lastL acc items j)) x.o = some (x.v, x.st', x.loud))
  last : st' = stOf st0 (lastL acc items items.length)
  env1 : ∀ (j : Nat) (x : DItem) (t : Nat) (u : AVal), items[j]? = some x → lk t x.env = some u → (∃ (k : Nat) (z : DItem), k < j ∧ items[k]? = some z ∧ z.o.dst = some t ∧ u = z.v) ∨ (lk t env = some u ∧ ∀ (k : Nat) (z : DItem), k < j → items[k]? = some z → z.o.dst ≠ some t)
  env2 : ∀ (t : Nat) (u : AVal), lk t env' = some u → (∃ (k : Nat) (z : DItem), items[k]? = some z ∧ z.o.dst = some t ∧ u = z.v) ∨ (lk t env = some u ∧ ∀ (k : Nat) (z : DItem), items[k]? = some z → z.o.dst ≠ some t)

/-- What an operation of such a region yields. -/
def adrawV (rec : Task → Option Res) (pol : Pol) (cx : Cx) (P : Program) (ops : Array Oper) (c0 i : Nat) (env : Env) (st : St) (o : Oper) : Option OpR :=
  match dvar P i o with
  | some x => some (AVal.ptr (.v (cx.base + x.d)) (c0 + i) (c0 + i) 0, st, false)
  | none => adraw1 rec pol cx P ops env st o

def lastOk (ops : Array Oper) (o : Oper) : Option Nat → Bool
  | none => true
  | some j => reach ops o j

theorem adrawSeq_cons {rec : Task → Option Res} {cx : Cx} {ops : Array Oper} {c0 : Nat} {vars : List DVar} {i : Nat} {last : Option Nat} {o : Oper} {r : List Oper} {env : Env} {st : St} :
    adrawSeq rec pol cx P ops c0 vars i last (o :: r) env st = (match adrawV rec pol cx P ops c0 i env st o with
    | none => none
    | some (v, st', loud) => cond (o.after.all fun e => !Region.binds .any e || Nat.blt e.on i)
      (cond (!loud || (loudOk rec pol cx P ops c0 vars ⟨i, o, env, v, loud, st'⟩ st && lastOk ops o last))
        (match aput' cx.nt o.dst v env with
         | none => none
         | some env' => match adrawSeq rec pol cx P ops c0 vars (i + 1) (cond loud (some i) last) r env' (cond loud st' st) with
           | none => none
           | some (l, e, s) => some (⟨i, o, env, v, loud, st'⟩ :: l, e, s)) none) none) := rfl

theorem lk_aput {nt : Nat} {dst : Option Tmp} {v : AVal} {env env' : Env} (h : aput' nt dst v env = some env') (t : Nat) : (∀ d, dst = some d → d < nt) ∧ lk t env' = if dst = some t then some v else lk t env := by
  cases dst with
  | none => simp only [aput', Option.some.injEq] at h; subst h; exact ⟨(fun d h => by cases h), by simp⟩
  | some d =>
    simp only [aput'] at h
    cases hb : Nat.blt d nt with
    | false => rw [hb] at h; cases h
    | true =>
      rw [hb] at h
      simp only [cond_true, Option.some.injEq] at h
      subst h
      refine ⟨(fun d' e => by cases e; simpa using hb), ?_⟩
      rw [lk_up]
      by_cases e : d = t <;> simp [e]

theorem seq_facts {rec : Task → Option Res} {cx : Cx} {ops : Array Oper} {c0 : Nat} {vars : List DVar} {st0 : St} : ∀ {l : List Oper} {i : Nat} {last : Option Nat} {env : Env} {st : St} {items : List DItem} {env' : Env} {st' : St} (acc : Option DItem),
    adrawSeq rec pol cx P ops c0 vars i last l env st = some (items, env', st') → st = stOf st0 acc → last = acc.map (·.i) → SeqF rec pol cx P ops c0 vars i acc st0 l env items env' st' := by
  intro l
  induction l with
  | nil =>
    intro i last env st items env' st' acc h hst hla
    simp only [adrawSeq, Option.some.injEq, Prod.mk.injEq] at h
    obtain ⟨rfl, rfl, rfl⟩ := h
    exact ⟨rfl, fun j x h => by simp at h, fun j x h => by simp at h, fun j x d h => by simp at h, fun j x h => by simp at h, fun j x h => by simp at h, hst, fun j x t u h => by simp at h, fun t u h => .inr ⟨h, fun k z hz => by simp at hz⟩⟩
  | cons o l ih =>
    intro i last env st items env' st' acc h hst hla
    rw [adrawSeq_cons] at h
    cases hq : adrawV rec pol cx P ops c0 i env st o with
    | none => rw [hq] at h; cases h
    | some q =>
      rw [hq] at h
      obtain ⟨v, st1, loud⟩ := q
      simp only at h
      cases hb : (o.after.all fun e => !Region.binds .any e || Nat.blt e.on i) with
      | false => rw [hb] at h; cases h
      | true =>
        rw [hb, cond_true] at h
        cases hch : (!loud || (loudOk rec pol cx P ops c0 vars ⟨i, o, env, v, loud, st1⟩ st && lastOk ops o last)) with
        | false => rw [hch] at h; cases h
        | true =>
          rw [hch, cond_true] at h
          cases hp : aput' cx.nt o.dst v env with
          | none => rw [hp] at h; cases h
          | some env1 =>
            rw [hp] at h
            simp only at h
            cases hr : adrawSeq rec pol cx P ops c0 vars (i + 1) (cond loud (some i) last) l env1 (cond loud st1 st) with
            | none => rw [hr] at h; cases h
            | some p =>
              obtain ⟨items1, e2, s2⟩ := p
              rw [hr] at h
              simp only [Option.some.injEq, Prod.mk.injEq] at h
              obtain ⟨rfl, rfl, rfl⟩ := h
              have F := ih (cond loud (some ⟨i, o, env, v, loud, st1⟩) acc) hr (by cases loud <;> simp [stOf, hst]) (by cases loud <;> simp [hla])
              have hla' : ∀ j, lastL acc (⟨i, o, env, v, loud, st1⟩ :: items1) (j + 1) = lastL (cond loud (some ⟨i, o, env, v, loud, st1⟩) acc) items1 j := fun j => rfl
              refine ⟨by simp [F.len], fun j x hx => ?_, fun j x hx => ?_, fun j x d hx hd => ?_, fun j x hx hl => ?_, fun j x hx => ?_, ?_, fun j x t u hx ht => ?_, fun t u ht => ?_⟩
              · cases j with
                | zero => simp only [List.getElem?_cons_zero, Option.some.injEq] at hx; subst hx; exact ⟨rfl, rfl⟩
                | succ j =>
                  obtain ⟨h1, h2⟩ := F.idx j x (by simpa using hx)
                  exact ⟨by omega, by simpa using h2⟩
              · cases j with
                | zero =>
                  simp only [List.getElem?_cons_zero, Option.some.injEq] at hx; subst hx
                  intro e he hbe
                  have := Array.all_eq_true_iff_forall_mem.1 hb e he
                  simp only [hbe, Bool.not_true, Bool.false_or] at this
                  simpa using this
                | succ j => intro e he hbe; have := F.back j x (by simpa using hx) e he hbe; omega
              · cases j with
                | zero => simp only [List.getElem?_cons_zero, Option.some.injEq] at hx; subst hx; exact (lk_aput hp 0).1 d hd
                | succ j => exact F.dst j x d (by simpa using hx) hd
              · cases j with
                | zero =>
                  simp only [List.getElem?_cons_zero, Option.some.injEq] at hx; subst hx
                  simp only at hl
                  subst hl
                  simp only [Bool.not_true, Bool.false_or, Bool.and_eq_true] at hch
                  refine ⟨by show loudOk rec pol cx P ops c0 vars _ (stOf st0 acc) = true; rw [← hst]; exact hch.1, fun y hy => ?_⟩
                  have hy' : acc = some y := hy
                  rw [hla, hy'] at hch
                  exact hch.2
                | succ j => rw [hla']; exact F.chain j x (by simpa using hx) hl
              · cases j with
                | zero =>
                  simp only [List.getElem?_cons_zero, Option.some.injEq] at hx; subst hx
                  unfold adrawV at hq
                  cases hd : dvar P i o with
                  | some y =>
                    rw [hd] at hq
                    simp only [Option.some.injEq, Prod.mk.injEq] at hq
                    obtain ⟨rfl, rfl, rfl⟩ := hq
                    exact .inl ⟨y, rfl, rfl, rfl⟩
                  | none =>
                    rw [hd] at hq
                    refine .inr ⟨rfl, ?_⟩
                    show adraw1 rec pol cx P ops env (stOf st0 acc) o = _
                    rw [← hst]; exact hq
                | succ j =>
                  have := F.val j x (by simpa using hx)
                  rw [hla', show i + (j + 1) = i + 1 + j by omega]
                  exact this
              · exact F.last
              · cases j with
                | zero => simp only [List.getElem?_cons_zero, Option.some.injEq] at hx; subst hx; exact .inr ⟨ht, fun k z hk => by omega⟩
                | succ j =>
                  rcases F.env1 j x t u (by simpa using hx) ht with ⟨k, z, h1, h2, h3, h4⟩ | ⟨h1, h2⟩
                  · exact .inl ⟨k + 1, z, by omega, by simpa using h2, h3, h4⟩
                  · rw [(lk_aput hp t).2] at h1
                    by_cases e : o.dst = some t
                    · simp only [e, if_true, Option.some.injEq] at h1
                      exact .inl ⟨0, _, by omega, rfl, e, h1.symm⟩
                    · simp only [e, if_false] at h1
                      exact .inr ⟨h1, fun k z hk hz => by
                        cases k with
                        | zero => simp only [List.getElem?_cons_zero, Option.some.injEq] at hz; subst hz; exact e
                        | succ k => exact h2 k z (by omega) (by simpa using hz)⟩
              · rcases F.env2 t u ht with ⟨k, z, h2, h3, h4⟩ | ⟨h1, h2⟩
                · exact .inl ⟨k + 1, z, by simpa using h2, h3, h4⟩
                · rw [(lk_aput hp t).2] at h1
                  by_cases e : o.dst = some t
                  · simp only [e, if_true, Option.some.injEq] at h1
                    exact .inl ⟨0, _, rfl, e, h1.symm⟩
                  · simp only [e, if_false] at h1
                    exact .inr ⟨h1, fun k z hz => by
                      cases k with
                      | zero => simp only [List.getElem?_cons_zero, Option.some.injEq] at hz; subst hz; exact e
                      | succ k => exact h2 k z (by simpa using hz)⟩

theorem mem_dvars : ∀ {l : List Oper} {i : Nat} {x : DVar}, x ∈ dvars P i l ↔ ∃ j o, l[j]? = some o ∧ dvar P (i + j) o = some x
  | [], i, x => by simp [dvars]
  | o :: r, i, x => by
    have ih := @mem_dvars r (i + 1) x
    have key : (∃ j o', (o :: r)[j]? = some o' ∧ dvar P (i + j) o' = some x) ↔ (dvar P i o = some x ∨ ∃ j o', r[j]? = some o' ∧ dvar P (i + 1 + j) o' = some x) := by
      constructor
      · rintro ⟨j, o', h1, h2⟩
        cases j with
        | zero => simp only [List.getElem?_cons_zero, Option.some.injEq] at h1; subst h1; exact .inl h2
        | succ j => exact .inr ⟨j, o', by simpa using h1, by rw [← h2]; congr 1; omega⟩
      · rintro (h | ⟨j, o', h1, h2⟩)
        · exact ⟨0, o, rfl, h⟩
        · exact ⟨j + 1, o', by simpa using h1, by rw [← h2]; congr 1; omega⟩
    rw [key]
    simp only [dvars]
    cases hd : dvar P i o with
    | none => simp only [ih, reduceCtorEq, false_or]
    | some y =>
      simp only [List.mem_cons, ih, Option.some.injEq]
      exact or_congr ⟨fun h => h.symm, fun h => h.symm⟩ Iff.rfl

theorem dvar_spec {i : Nat} {o : Oper} {x : DVar} (h : dvar P i o = some x) : x.i = i ∧ x.o = o ∧ o.guard = none ∧ o.dst = some x.d ∧ ∃ elem z, o.op = .alloc elem ∧ zeroT P elem = some z ∧ x.cells = z.cellsOf := by
  unfold dvar at h
  split at h
  · rename_i elem d h1 h2 h3
    cases hz : zeroT P elem with
    | none => rw [hz] at h; cases h
    | some z =>
      rw [hz] at h
      simp only at h
      cases hc : z.cellsOf.all AVal.one with
      | false => rw [hc] at h; cases h
      | true =>
        rw [hc] at h
        simp only [cond_true, Option.some.injEq] at h
        subst h
        exact ⟨rfl, rfl, h2, h3, elem, z, h1, hz, rfl⟩
  · cases h

theorem dvars_sorted : ∀ {l : List Oper} {i : Nat}, (dvars P i l).Pairwise fun x y => x.i < y.i
  | [], i => by simp [dvars]
  | o :: r, i => by
    simp only [dvars]
    cases hd : dvar P i o with
    | none => exact dvars_sorted
    | some y =>
      refine List.pairwise_cons.2 ⟨fun z hz => ?_, dvars_sorted⟩
      obtain ⟨j, o', h1, h2⟩ := mem_dvars.1 hz
      have := (dvar_spec hd).1
      have := (dvar_spec h2).1
      omega
end Go.Ax
