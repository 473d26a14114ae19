/- Each abstract operation stands for the model's: slice expressions, structs built. -/
import Derived.Test.YtlpeajiemppicaaGreatDoorPnAxP
namespace Go.Ax
set_option linter.unusedVariables false
set_option linter.unusedSimpArgs false

variable {P : Program} {pol : Pol} {ρ : Loc} {R T : Nat → Prop} {w : World}

theorem str_extract (s : ByteArray) (l h : Nat) : ((s.extract l h).data.toList.map UInt8.toNat) = ((s.data.toList.map UInt8.toNat).drop l).take (h - l) := by
  rw [ByteArray.data_extract, Array.toList_extract, List.extract_eq_take_drop, List.map_take, List.map_drop]

theorem aslice_ok {Res : Nat → Prop} {st : St} (hg : Good ρ Res T st w) {t : TypeId} {p v : AVal} {x : Value} {lo hi mx : Option AVal} {lo' hi' mx' : Option Value} (h : aslice P st t p lo hi mx = some v) (hf : Fit ρ (Rs ρ st.heap Res) T w p x)
    (flo : FitO ρ (Rs ρ st.heap Res) T w lo lo') (fhi : FitO ρ (Rs ρ st.heap Res) T w hi hi') (fmx : FitO ρ (Rs ρ st.heap Res) T w mx mx') : ∃ z, (∀ w, (Instr.sliceAt t x lo' hi' mx').run P w = .ok z w) ∧ Fit ρ (Rs ρ st.heap Res) T w v z := by
  unfold aslice at h
  cases hu : P.underlying t with
  | none => rw [hu] at h; cases h
  | some d =>
    rw [hu] at h
    cases d with
    | string =>
      cases p with
      | str s =>
        simp only at h
        cases fmx with
        | some => simp at h
        | none =>
          cases hb : abounds s.length lo hi none with
          | none => rw [hb] at h; cases h
          | some q =>
            obtain ⟨l, hh, m⟩ := q
            rw [hb] at h
            simp only [Option.some.injEq] at h
            subst h
            cases hf with
            | str s =>
              have hsz : (s.data.toList.map UInt8.toNat).length = s.size := by simp
              rw [hsz] at hb
              obtain ⟨a1, a2, a3, a4, a5⟩ := abounds_ok (P := P) false hb (Nat.le_refl _) flo fhi .none
              refine ⟨.string (s.extract l hh), fun w => ?_, ?_⟩
              · simp [Instr.sliceAt, run_underlying hu, Instr.slice, a5, Sem.run, pure]
              · rw [← str_extract]; exact .str _
      | _ => cases h
    | slice elem =>
      cases p with
      | fsl tn cx len cells =>
        simp only at h
        cases hz : szT P elem with
        | none => rw [hz] at h; cases h
        | some n =>
          rw [hz] at h
          cases hb : abounds len lo hi mx with
          | none => rw [hb] at h; cases h
          | some q =>
            obtain ⟨l, hh, m⟩ := q
            rw [hb] at h
            simp only [Option.some.injEq] at h
            subst h
            cases hf with
            | fsl _ _ _ _ A cap vs h1 h2 h3 h4 h5 h6 =>
              obtain ⟨a1, a2, a3, a4, a5⟩ := abounds_ok (P := P) true hb h1 flo fhi fmx
              have hm : hh ≤ m.getD cap := by
                cases m with
                | none => simp; omega
                | some k => simpa using (a3 k rfl).1
              refine ⟨.slice (if m.getD cap = l then A else A.map (·.add (l * n))) (hh - l) (m.getD cap - l), fun w => ?_, ?_⟩
              · simp [Instr.sliceAt, run_underlying hu, Instr.slice, a5, run_size hz, Sem.run, pure]
              · refine .fsl tn _ _ _ _ _ (fun j => vs (l * n + j)) (by omega) (fun hcx => ?_) (fun hpos => ?_) (fun j hj => ?_) (fun j hj => ?_) (allPure_take (allPure_drop h6 _) _)
                · cases m with
                  | none =>
                    simp only [capx, Bool.and_eq_true, beq_iff_eq] at hcx
                    have := h2 hcx.1
                    simp only [Option.getD_none]; omega
                  | some k =>
                    simp only [capx, beq_iff_eq] at hcx
                    simp only [Option.getD_some]; omega
                · obtain ⟨a, rfl⟩ := h3 (by omega)
                  by_cases e : m.getD cap = l
                  · exact ⟨a, by simp [e]⟩
                  · exact ⟨a.add (l * n), by simp [e]⟩
                · have hjl : j < (hh - l) * n ∧ l * n + j < cells.length := by simp at hj; omega
                  obtain ⟨a, rfl, b1, b2⟩ := h4 (l * n + j) hjl.2
                  have e : ¬ m.getD cap = l := by
                    intro e
                    have : hh - l = 0 := by omega
                    rw [this] at hjl; omega
                  refine ⟨a.add (l * n), by simp [e], by rw [add_block]; exact b1, by rw [add_add]; exact b2⟩
                · have hjl : l * n + j < cells.length := by simp at hj; omega
                  have e1 : ((cells.drop (l * n)).take ((hh - l) * n))[j] = cells[l * n + j] := by rw [List.getElem_take, List.getElem_drop]
                  rw [e1]; exact h5 _ _
      | sl cx b inc ver off len sz =>
        simp only at h
        cases hz : szT P elem with
        | none => rw [hz] at h; cases h
        | some n =>
          rw [hz] at h
          cases hb : abounds len lo hi mx with
          | none => rw [hb] at h; cases h
          | some q =>
            obtain ⟨l, hh, m⟩ := q
            rw [hb] at h
            simp only at h
            cases hn : (n == sz) with
            | false => rw [hn] at h; cases h
            | true =>
              rw [hn, cond_true] at h
              have hn' : n = sz := by simpa using hn
              subst hn'
              cases hf with
              | sl _ _ _ _ _ _ _ g cap e N h1 h2 h3 h4 h5 =>
                obtain ⟨a1, a2, a3, a4, a5⟩ := abounds_ok (P := P) true hb h2 flo fhi fmx
                have hm : hh ≤ m.getD cap ∧ m.getD cap ≤ cap := by
                  cases m with
                  | none => simp; omega
                  | some k => have := a3 k rfl; simp; omega
                have hcx : ∀ (q : capx m (cx && hh == len) hh = true), m.getD cap = hh := by
                  intro q
                  cases m with
                  | none =>
                    simp only [capx, Bool.and_eq_true, beq_iff_eq] at q
                    have := h3 q.1
                    simp only [Option.getD_none]; omega
                  | some k => simpa [capx] using q
                have hrun : ∀ w, (Instr.sliceAt t (.slice (some ⟨g, off, none⟩) len cap) lo' hi' mx').run P w = .ok (.slice (if m.getD cap = l then some ⟨g, off, none⟩ else some ((⟨g, off, none⟩ : Addr).add (l * n))) (hh - l) (m.getD cap - l)) w := fun w => by
                  simp [Instr.sliceAt, run_underlying hu, Instr.slice, a5, run_size hz, Sem.run, pure]
                refine ⟨_, hrun, ?_⟩
                cases hc : (l == hh && !(l == 0)) with
                | true =>
                  rw [hc] at h
                  simp only [cond_true, Option.some.injEq] at h
                  subst h
                  simp only [Bool.and_eq_true, beq_iff_eq] at hc
                  have e0 : hh - l = 0 := by omega
                  rw [e0]
                  exact .fsl false _ 0 [] _ _ (fun _ => undef) (Nat.zero_le _) (fun q => by have := hcx q; omega) (fun h => by omega) (fun j h => by simp at h) (fun j h => by simp at h) rfl
                | false =>
                  rw [hc] at h
                  simp only [cond_false, Option.some.injEq] at h
                  subst h
                  have haddr : (if m.getD cap = l then some (⟨g, off, none⟩ : Addr) else some ((⟨g, off, none⟩ : Addr).add (l * n))) = some ⟨g, off + l * n, none⟩ := by
                    by_cases e : m.getD cap = l
                    · have : l = 0 := by
                        apply Classical.byContradiction
                        intro hl
                        have : (l == hh && !(l == 0)) = true := by
                          simp only [Bool.and_eq_true, beq_iff_eq, Bool.not_eq_true']
                          exact ⟨by omega, by simpa using hl⟩
                        rw [this] at hc; cases hc
                      subst this
                      simp [e]
                    · rw [if_neg e, addr_add]
                  rw [haddr]
                  refine .sl _ b inc ver _ _ n g _ e N h1 (by omega) (fun q => by have := hcx q; omega) h4 ?_
                  have : l * n + (m.getD cap - l) * n ≤ cap * n := by
                    rw [← Nat.add_mul]; exact Nat.mul_le_mul_right _ (by omega)
                  omega
      | _ => cases h
    | array len elem =>
      cases p with
      | ptr b inc ver off =>
        simp only at h
        cases hz : szT P elem with
        | none => rw [hz] at h; cases h
        | some n =>
          rw [hz] at h
          cases hb : abounds len lo hi mx with
          | none => rw [hb] at h; cases h
          | some q =>
            obtain ⟨l, hh, m⟩ := q
            rw [hb] at h
            simp only at h
            cases hr : rowAt st.heap b inc ver off (len * n) with
            | none => rw [hr] at h; cases h
            | some row =>
              rw [hr] at h
              match row, hr with
              | [], _ => cases h
              | c0 :: cr, hr =>
                cases hf with
                | ptr _ _ _ _ g h1 =>
                  obtain ⟨b1, c, e, b2, b3⟩ := rowAt_ok hg hr h1
                  have hN : off + len * n ≤ c.size := by
                    obtain ⟨v', hv', _⟩ := b3 ((c0 :: cr).length - 1) (by simp)
                    have := (Array.getElem?_eq_some_iff.1 hv').1
                    rw [b1] at this
                    have h0 : 0 < len * n := by rw [← b1]; simp
                    omega
                  have hsh : w.shape? g = some (e, c.size) := by simp [World.shape?, b2]
                  obtain ⟨a1, a2, a3, a4, a5⟩ := abounds_ok (P := P) false hb (Nat.le_refl _) flo fhi fmx
                  have hm : hh ≤ m.getD len ∧ m.getD len ≤ len := by
                    cases m with
                    | none => simp; omega
                    | some k => have := a3 k rfl; simp; omega
                  have hcx : ∀ (q : capx m (hh == len) hh = true), m.getD len = hh := by
                    intro q
                    cases m with
                    | none => simp only [capx, beq_iff_eq] at q; simp [q]
                    | some k => simpa [capx] using q
                  have hrun : ∀ w, (Instr.sliceAt t (.pointer (some ⟨g, off, none⟩)) lo' hi' mx').run P w = .ok (.slice (some (if m.getD len = l then ⟨g, off, none⟩ else (⟨g, off, none⟩ : Addr).add (l * n))) (hh - l) (m.getD len - l)) w := fun w => by
                    simp [Instr.sliceAt, run_underlying hu, Instr.sureAddr, a5, run_size hz, Sem.run, pure]
                  refine ⟨_, hrun, ?_⟩
                  cases hc : (l == hh && !(l == 0)) with
                  | true =>
                    rw [hc] at h
                    simp only [cond_true, Option.some.injEq] at h
                    subst h
                    simp only [Bool.and_eq_true, beq_iff_eq] at hc
                    have e0 : hh - l = 0 := by omega
                    rw [e0]
                    exact .fsl false _ 0 [] _ _ (fun _ => undef) (Nat.zero_le _) (fun q => by cases q) (fun h => by omega) (fun j h => by simp at h) (fun j h => by simp at h) rfl
                  | false =>
                    rw [hc] at h
                    simp only [cond_false, Option.some.injEq] at h
                    subst h
                    have haddr : (if m.getD len = l then (⟨g, off, none⟩ : Addr) else ((⟨g, off, none⟩ : Addr).add (l * n))) = ⟨g, off + l * n, none⟩ := by
                      by_cases e : m.getD len = l
                      · have : l = 0 := by
                          apply Classical.byContradiction
                          intro hl
                          have : (l == hh && !(l == 0)) = true := by
                            simp only [Bool.and_eq_true, beq_iff_eq, Bool.not_eq_true']
                            exact ⟨by omega, by simpa using hl⟩
                          rw [this] at hc; cases hc
                        subst this
                        simp [e]
                      · rw [if_neg e, addr_add]
                    rw [haddr]
                    refine .sl _ b inc ver _ _ n g _ e c.size h1 (by omega) (fun q => by have := hcx q; omega) hsh ?_
                    have : l * n + (m.getD len - l) * n ≤ len * n := by
                      rw [← Nat.add_mul]; exact Nat.mul_le_mul_right _ (by omega)
                    omega
      | _ => cases h
    | _ => cases h

end Go.Ax
