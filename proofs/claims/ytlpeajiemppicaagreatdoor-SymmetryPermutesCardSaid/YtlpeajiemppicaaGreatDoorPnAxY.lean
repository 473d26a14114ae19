/- Each abstract operation stands for the model's: append. -/
import Derived.Test.YtlpeajiemppicaaGreatDoorPnAxX
namespace Go.Ax
set_option linter.unusedVariables false
set_option linter.unusedSimpArgs false

variable {P : Program} {pol : Pol} {ρ : Loc} {R T : Nat → Prop} {w : World}

theorem fit_one {v : AVal} {x : Value} (h : Fit ρ R T w v x) : x.oneCell' = v.one := by cases h <;> rfl

theorem all_one {xs : List AVal} {vs : List Value} (h : FitL ρ R T w xs vs) (ho : xs.all AVal.one = true) : ∀ v ∈ vs, v.oneCell' = true := by
  intro v hv
  obtain ⟨j, hj, rfl⟩ := List.getElem_of_mem hv
  have hj' : j < xs.length := by rw [← h.1]; exact hj
  have hf := h.2 j hj'
  rw [List.getD_eq_getElem?_getD, List.getElem?_eq_getElem hj, Option.getD_some] at hf
  rw [fit_one hf]
  exact List.all_eq_true.1 ho _ (List.getElem_mem hj')

/-- The cells of what is appended or copied. -/
theorem asource_ok {Res : Nat → Prop} {st : St} (hg : Good ρ Res T st w) {sz : Nat} {x : AVal} {X : Value} {n : Nat} {new : List AVal} (h : asource st sz x = some (n, new)) (hx : Fit ρ (Rs ρ st.heap Res) T w x X) :
    new.length = n * sz ∧ (∀ w', (Builtin.lenOf X).run P w' = .ok n w') ∧ ∀ m, m ≤ n → ∃ vs : List Value, vs.length = m * sz ∧ (∀ w', w'.heap = w.heap → (Builtin.firstCells sz m X).run P w' = .ok vs.toArray w') ∧
      ∀ j (hj : j < vs.length) (hj' : j < new.length), Fit ρ (Rs ρ st.heap Res) T w new[j] vs[j] := by
  have cellEq : ∀ {w' : World} (a : Addr), w'.heap = w.heap → w'.cell? a = w.cell? a := fun a hw => by unfold World.cell?; rw [hw]
  have fromCells : ∀ (a : Addr) (f : Nat → Value) (len cap : Nat), new.length = len * sz → X = .slice (some a) len cap → (∀ j (hj : j < new.length), w.cell? (a.add j) = some (f j) ∧ Fit ρ (Rs ρ st.heap Res) T w new[j] (f j)) →
      ∀ m, m ≤ len → ∃ vs : List Value, vs.length = m * sz ∧ (∀ w', w'.heap = w.heap → (Builtin.firstCells sz m X).run P w' = .ok vs.toArray w') ∧
        ∀ j (hj : j < vs.length) (hj' : j < new.length), Fit ρ (Rs ρ st.heap Res) T w new[j] vs[j] := by
    intro a f len cap hl hX hf m hm
    subst hX
    have hms : m * sz ≤ len * sz := Nat.mul_le_mul_right _ hm
    refine ⟨(List.range (m * sz)).map f, by simp, fun w' hw => ?_, fun j hj hj' => ?_⟩
    · simp only [Builtin.firstCells]
      exact run_loadCells w' a (m * sz) f (fun j hj => by rw [cellEq _ hw]; exact (hf j (by omega)).1)
    · simp only [List.getElem_map, List.getElem_range]
      exact (hf j hj').2
  cases x with
  | sl cx b inc ver off len sz' =>
    simp only [asource] at h
    cases hc : (sz' == sz) with
    | false => rw [hc] at h; cases h
    | true =>
      rw [hc] at h
      simp only [cond_true, Option.map_eq_some_iff, Prod.mk.injEq] at h
      obtain ⟨cs, h1, rfl, rfl⟩ := h
      have hc' : sz' = sz := by simpa using hc
      subst hc'
      cases hx with
      | sl _ _ _ _ _ _ _ g cap e N g1 g2 g3 g4 g5 =>
        obtain ⟨b1, c, e', b2, b3⟩ := rowAt_ok hg h1 g1
        refine ⟨b1, fun w' => rfl, fromCells ⟨g, off, none⟩ (fun j => c.getD (off + j) undef) len cap b1 rfl (fun j hj => ?_)⟩
        obtain ⟨v, hv, hf⟩ := b3 j hj
        have e3 : c.getD (off + j) undef = v := by simp [Array.getD_eq_getD_getElem?, hv]
        show w.cell? _ = some (c.getD (off + j) undef) ∧ Fit _ _ _ _ _ (c.getD (off + j) undef)
        rw [addr_add, cell_of_cells b2, hv, e3]; exact ⟨rfl, hf⟩
  | fsl tn cx len cells =>
    simp only [asource] at h
    cases hc : (cells.length == len * sz) with
    | false => rw [hc] at h; cases h
    | true =>
      rw [hc] at h
      simp only [cond_true, Option.some.injEq, Prod.mk.injEq] at h
      obtain ⟨rfl, rfl⟩ := h
      have hc' : cells.length = len * sz := by simpa using hc
      cases hx with
      | fsl _ _ _ _ A cap vs h1 h2 h3 h4 h5 =>
        refine ⟨hc', fun w' => rfl, ?_⟩
        cases A with
        | some a =>
          exact fromCells a vs len cap hc' rfl (fun j hj => by
            obtain ⟨a', e, b1, b2⟩ := h4 j hj
            cases e; exact ⟨b2, h5 j hj⟩)
        | none =>
          intro m hm
          have h0 : len = 0 := by
            apply Classical.byContradiction
            intro hne
            obtain ⟨a, ha⟩ := h3 (by omega)
            cases ha
          subst h0
          have hm0 : m = 0 := by omega
          subst hm0
          exact ⟨[], by simp, fun w' _ => rfl, fun j hj => by simp at hj⟩
  | str s =>
    simp only [asource] at h
    cases hc : (sz == 1) with
    | false => rw [hc] at h; cases h
    | true =>
      rw [hc] at h
      simp only [cond_true, Option.some.injEq, Prod.mk.injEq] at h
      obtain ⟨rfl, rfl⟩ := h
      have hc' : sz = 1 := by simpa using hc
      subst hc'
      cases hx with
      | str s =>
        have hl : (s.data.toList.map UInt8.toNat).length = s.size := by simp
        refine ⟨by simp, fun w' => by rw [hl]; rfl, fun m hm => ?_⟩
        rw [hl] at hm
        refine ⟨((s.extract 0 m).data.map fun b => Value.int .u8 b.toNat).toList, by simp; omega, fun w' _ => by
          simp only [Builtin.firstCells]
          congr 1, fun j hj hj' => ?_⟩
        have hjs : j < s.data.size := by simpa using hj'
        simp only [List.getElem_map, Array.getElem_toList, Array.getElem_map]
        have : (s.extract 0 m).data[j]'(by simpa using hj) = s.data[j] := by simp
        rw [this]
        exact .int .u8 _
  | _ => cases h

theorem zeroCells_size (z : Array Value) (n : Nat) : (Builtin.zeroCells z n).size = n * z.size := by simp [Builtin.zeroCells]

/-- append where there is no room. -/
theorem append_grows {sT xT elem : TypeId} {xd : TypeDesc} {i : TypeInfo} {z : AVal} {ts : Array TypeId} {ty : TypeId} {A : Option Addr} {len cap n : Nat} {X : Value} {old new : List Value}
    (hs : P.underlying sT = some (.slice elem)) (hx : P.underlying xT = some xd) (hxd : ∀ k, xd ≠ .int k) (hi : P.info? elem = some i) (hz : zeroT P elem = some z)
    (ht0 : ts[0]? = some sT) (ht1 : ts[1]? = some xT) (hlen : ∀ w', (Builtin.lenOf X).run P w' = .ok n w') (hnew : ∀ w', w'.heap = w.heap → (Builtin.firstCells i.size n X).run P w' = .ok new.toArray w')
    (hold : ∀ w', w'.heap = w.heap → (Builtin.firstCells i.size len (.slice A len cap)).run P w' = .ok old.toArray w') (hb : (len + n) * i.bytes ≤ 140737488355328) (hm : len + n ≤ 140737488355328) (hcap : cap < len + n) (hn : new.length = n * i.size) (ho : old.length = len * i.size)
    (hzs : z.cellsOf.length = i.size) :
    ∃ (newCap : Nat) (rest : List Value) (w1 : World), len + n ≤ newCap ∧ (Builtin.append_ ts ty #[.slice A len cap, X]).run P w = .ok (.slice (some ⟨w.heap.size, 0, none⟩) (len + n) newCap) w1 ∧
      w1.heap = w.heap.push (.cells (old ++ new ++ rest).toArray elem) ∧ w1.os = w.os ∧ w1.tape = w.tape ∧ w1.output = w.output ∧ (old ++ new ++ rest).length = newCap * i.size := by
  have hsz : szT P elem = some i.size := by simp [szT, hi]
  obtain ⟨zv, z1, z2⟩ := run_zero hz w
  obtain ⟨a1, _⟩ := fit_cells (ofVal_ok (fun _ _ => none) (fun _ => False) (fun _ => False) w 4 zv z z2)
  generalize hq : (Question.appendCap (len + n) cap elem).cut (w.tape w.drawn (.appendCap (len + n) cap elem)) = newCap
  have hge : len + n ≤ newCap := by rw [← hq]; exact Nat.le_add_right _ _
  have hfit := growslice_fits (need := len + n) (old := cap) (bytes := i.bytes) hcap hb
  have hmax : IntKind.i64.max = 9223372036854775807 := by decide
  obtain ⟨zv2, y1, y2⟩ := run_zero hz { w with drawn := w.drawn + 1 }
  have hzv : zv2 = zv := by
    simp only [zeroValue, Sem.run_bind, run_info hi, Result.andThen_ok] at z1 y1
    cases hzz : i.zero with
    | none => rw [hzz] at z1; simp at z1
    | some z0 => rw [hzz] at z1 y1; simp at z1 y1; rw [← z1, ← y1]
  subst hzv
  refine ⟨newCap, (Builtin.zeroCells zv2.cells (newCap - (len + n))).toList, { w with drawn := w.drawn + 1, heap := w.heap.push (.cells (old ++ new ++ (Builtin.zeroCells zv2.cells (newCap - (len + n))).toList).toArray elem) }, hge, ?_, rfl, rfl, rfl, rfl, ?_⟩
  · have hforced : (Question.appendCap (len + n) cap elem).forced = false := rfl
    have h48 : (2 : Nat) ^ 48 = 281474976710656 := by decide
    have c1 : ¬ (len + n ≤ cap) := by omega
    have c2 : ¬ (((len + n : Nat) : Int) > 9223372036854775807 ∧ i.bytes = 0) := by omega
    have c3 : ¬ (Builtin.nextslicecap (len + n) cap * i.bytes > 2 ^ 48) := by rw [h48]; omega
    cases xd with
    | int k => exact absurd rfl (hxd k)
    | _ =>
      simp only [Builtin.append_, ht0, ht1, List.size_toArray, List.length_cons, List.getElem?_toArray, List.getElem?_cons_zero, List.getElem?_cons_succ, Sem.run_bind, run_underlying hs, run_underlying hx, Result.andThen_ok, run_size hsz, Sem.run_pure,
        Bool.false_eq_true, if_false, hlen, c1, run_info hi, hmax, false_or, c2, c3, run_choose, hforced, hq, run_askRoom]
      rw [hold { w with drawn := w.drawn + 1 } rfl]
      simp only [Result.andThen_ok, Bool.not_false, if_true]
      rw [hnew { w with drawn := w.drawn + 1 } rfl]
      simp only [Result.andThen_ok, y1, Go.newRow, Sem.run_bind, run_newObj, Sem.run_pure]
      congr 3
      simp
  · simp only [List.length_append, Array.length_toList, zeroCells_size, a1, hzs, ho, hn]
    rw [← Nat.add_mul, ← Nat.add_mul]
    congr 1
    omega

end Go.Ax
