/- Each abstract operation stands for the model's: append, copy, stores. -/
import Derived.Test.YtlpeajiemppicaaGreatDoorPnAxY
namespace Go.Ax
set_option linter.unusedVariables false
set_option linter.unusedSimpArgs false

variable {P : Program} {pol : Pol} {ρ : Loc} {R T : Nat → Prop} {w : World}

/-- append where there is room. -/
theorem append_room {sT xT elem : TypeId} {xd : TypeDesc} {i : TypeInfo} {ts : Array TypeId} {ty : TypeId} {g len cap n : Nat} {X : Value} {new : List Value} {c : Array Value} {e : TypeId}
    (hs : P.underlying sT = some (.slice elem)) (hx : P.underlying xT = some xd) (hxd : ∀ k, xd ≠ .int k) (hi : P.info? elem = some i)
    (ht0 : ts[0]? = some sT) (ht1 : ts[1]? = some xT) (hlen : ∀ w', (Builtin.lenOf X).run P w' = .ok n w') (hnew : (Builtin.firstCells i.size n X).run P w = .ok new.toArray w) (hcap : len + n ≤ cap) (hn : new.length = n * i.size)
    (hg : w.heap[g]? = some (.cells c e (0, 0))) (hroom : cap * i.size ≤ c.size) (hone : ∀ v ∈ new, v.oneCell' = true) :
    (Builtin.append_ ts ty #[.slice (some ⟨g, 0, none⟩) len cap, X]).run P w = .ok (.slice (some ⟨g, 0, none⟩) (len + n) cap)
      (w.setRow g (c.toList.take (len * i.size) ++ new ++ c.toList.drop (len * i.size + new.length)).toArray) := by
  have hsz : szT P elem = some i.size := by simp [szT, hi]
  have hst := run_storeCells_at (P := P) g (len * i.size) e new 0 c w hg (by
    rw [hn]
    have : (len + n) * i.size ≤ cap * i.size := Nat.mul_le_mul_right _ hcap
    rw [Nat.add_mul] at this; omega) hone
  simp only [Nat.add_zero] at hst
  cases xd with
  | int k => exact absurd rfl (hxd k)
  | _ =>
    simp only [Builtin.append_, ht0, ht1, List.size_toArray, List.length_cons, List.getElem?_toArray, List.getElem?_cons_zero, List.getElem?_cons_succ, Sem.run_bind, run_underlying hs, run_underlying hx, Result.andThen_ok, run_size hsz, Sem.run_pure,
      Bool.false_eq_true, if_false, hlen, hcap, if_true, Bool.not_false, hnew, addr_add, Nat.zero_add, hst]

theorem shape_push {w' : World} {o : Obj} (hw : w'.heap = w.heap.push o) {g : Nat} {x : TypeId × Nat} (h : w.shape? g = some x) : w'.shape? g = some x := by
  rw [shape_of_heap (heap_push_old hw (shape_lt h))]; exact h

theorem fit_list_of {xs : List AVal} {vs : List Value} (hl : vs.length = xs.length) (h : ∀ j (hj : j < vs.length) (hj' : j < xs.length), Fit ρ R T w xs[j] vs[j]) : FitL ρ R T w xs vs :=
  ⟨hl, fun j hj => by
    have h1 : j < vs.length := by omega
    rw [List.getD_eq_getElem?_getD, List.getElem?_eq_getElem h1, Option.getD_some]; exact h j h1 hj⟩

theorem aappend_ok {Res : Nat → Prop} {st st' : St} (hg : Good ρ Res T st w) {cx : Cx} {dst : Nat} {sT xT : TypeId} {s x v : AVal} {S X : Value} {ts : Array TypeId} {ty : TypeId} (h : aappend pol cx P dst sT xT s x st = some (v, st'))
    (hs : Fit ρ (Rs ρ st.heap Res) T w s S) (hx : Fit ρ (Rs ρ st.heap Res) T w x X) (ht0 : ts[0]? = some sT) (ht1 : ts[1]? = some xT) : Loud P ρ Res T st st' w (Builtin.append_ ts ty #[S, X]) v := by
  unfold aappend at h
  cases hus : P.underlying sT with
  | none => rw [hus] at h; cases h
  | some sd =>
    cases hux : P.underlying xT with
    | none => rw [hus, hux] at h; cases sd <;> cases h
    | some xd =>
      rw [hus, hux] at h
      cases sd with
      | slice elem =>
        simp only at h
        cases hxi : isIntT xd with
        | true => rw [hxi] at h; cases h
        | false =>
        rw [hxi, cond_false] at h
        have hxd : ∀ k, xd ≠ .int k := by
          intro k e
          subst e
          cases hxi
        have h' := h
        clear h
        unfold aappend1 at h'
        cases hi : P.info? elem with
        | none => rw [hi] at h'; cases h'
        | some i =>
          cases hz : zeroT P elem with
          | none => rw [hi, hz] at h'; cases h'
          | some z =>
            rw [hi, hz] at h'
            simp only at h'
            cases hzs : (z.cellsOf.length == i.size) with
            | false => rw [hzs] at h'; cases h'
            | true =>
              rw [hzs, cond_true] at h'
              have hzs' : z.cellsOf.length = i.size := by simpa using hzs
              cases hsrc : asource st i.size x with
              | none => rw [hsrc] at h'; cases h'
              | some p =>
                obtain ⟨n, new⟩ := p
                rw [hsrc] at h'
                simp only at h'
                cases hone : new.all AVal.one with
                | false => rw [hone] at h'; cases h'
                | true =>
                  rw [hone, cond_true] at h'
                  obtain ⟨q1, q2, q3⟩ := asource_ok (P := P) hg hsrc hx
                  obtain ⟨vs, q4, q5, q6⟩ := q3 n (Nat.le_refl _)
                  have hsz : szT P elem = some i.size := by simp [szT, hi]
                  cases hn : (n == 0) with
                  | true =>
                    rw [hn, cond_true] at h'
                    have hn' : n = 0 := by simpa using hn
                    subst hn'
                    cases hsl : isSlice s with
                    | false => rw [hsl] at h'; cases h'
                    | true =>
                      rw [hsl, cond_true] at h'
                      simp only [Option.some.injEq, Prod.mk.injEq] at h'
                      obtain ⟨rfl, rfl⟩ := h'
                      have hvs : vs = [] := List.eq_nil_of_length_eq_zero (by omega)
                      subst hvs
                      have hSS : ∃ A len cap, S = .slice A len cap ∧ len ≤ cap := by
                        cases hs with
                        | fsl _ _ len _ A cap _ h1 => exact ⟨_, _, _, rfl, h1⟩
                        | sl _ _ _ _ _ len _ g cap _ _ _ h2 => exact ⟨_, _, _, rfl, h2⟩
                        | _ => cases hsl
                      obtain ⟨A, len, cap, rfl, hlc⟩ := hSS
                      refine ⟨.slice A len cap, w, ρ, ?_, hs, Ev.refl .., hg⟩
                      have hlc' : len + 0 ≤ cap := hlc
                      have q5' := q5 w rfl
                      cases xd with
                      | int k => exact absurd rfl (hxd k)
                      | _ =>
                        simp only [Builtin.append_, ht0, ht1, List.size_toArray, List.length_cons, List.getElem?_toArray, List.getElem?_cons_zero, List.getElem?_cons_succ, Sem.run_bind, run_underlying hus, run_underlying hux, Result.andThen_ok, run_size hsz, Sem.run_pure,
                          Bool.false_eq_true, if_false, q2, hlc', if_true, Bool.not_false, q5']
                        cases A <;> simp [storeCells]
                  | false =>
                    rw [hn, cond_false] at h'
                    have hn' : n ≠ 0 := by simpa using hn
                    generalize hd : frzData pol cx new st = r at h'
                    obtain ⟨new', st1⟩ := r
                    simp only at h'
                    obtain ⟨ev1, g1, l1, o1, k1, f1⟩ := frzData_ok hg hd (fun j => vs.getD j undef) (fun j hj => by
                      have hj' : j < vs.length := by omega
                      show Fit _ _ _ _ _ (vs.getD j undef)
                      rw [List.getD_eq_getElem?_getD, List.getElem?_eq_getElem hj', Option.getD_some]; exact q6 j hj' hj)
                    have hfl : FitL ρ (Rs ρ st1.heap Res) T w new' vs := ⟨by omega, f1⟩
                    have hvone := all_one hfl (by rw [o1]; exact hone)
                    have hs1 := hs.ev ev1 hg.res
                    -- moved into a new row of its own
                    have moved : ∀ (A : Option Addr) (len cap : Nat) (oldA : List AVal) (old : List Value), S = .slice A len cap → cap = len → oldA.length = len * i.size → old.length = len * i.size →
                        (∀ w', w'.heap = w.heap → (Builtin.firstCells i.size len (.slice A len cap)).run P w' = .ok old.toArray w') → (∀ j (hj : j < old.length) (hj' : j < oldA.length), Fit ρ (Rs ρ st1.heap Res) T w oldA[j] old[j]) →
                        (len + n) * i.bytes ≤ 140737488355328 → len + n ≤ 140737488355328 → ∀ b' st2, rowId pol cx dst st1 = (b', st2) →
                        Loud P ρ Res T st (newRow b' true (oldA ++ new') st2) w (Builtin.append_ ts ty #[S, X]) (.sl false b' st2.clock st2.clock 0 (len + n) i.size) := by
                      intro A len cap oldA old hS hcap hlA hlo hold hfit hb1 hb2 b' st2 hr
                      subst hS
                      obtain ⟨e1, e2⟩ := rowId_ok hr
                      obtain ⟨newCap, rest, w1, m1, m2, m3, m4, m5, m6, m7⟩ := append_grows (w := w) (ts := ts) (ty := ty) hus hux hxd hi hz ht0 ht1 q2 q5 hold hb1 hb2 (by omega) q4 hlo hzs'
                      obtain ⟨ev, good⟩ := good_new_row (w' := w1) (g1.congr e1 e2) b' true (oldA ++ new') (old ++ vs ++ rest).toArray elem m3 m4 m5 m6 (fun j hj => by
                        rw [e2]
                        simp only [List.length_append] at hj
                        by_cases hj1 : j < oldA.length
                        · have hj2 : j < old.length := by omega
                          refine ⟨old[j], ?_, by rw [List.getElem_append_left hj1]; exact hfit j hj2 hj1⟩
                          simp [List.getElem?_append, hj2, show j < old.length + vs.length by omega]
                        · obtain ⟨k, rfl⟩ : ∃ k, j = oldA.length + k := ⟨j - oldA.length, by omega⟩
                          have hk : k < new'.length := by omega
                          have hk2 : k < vs.length := by omega
                          have hfj := hfl.2 k hk
                          rw [List.getD_eq_getElem?_getD, List.getElem?_eq_getElem hk2, Option.getD_some] at hfj
                          refine ⟨vs[k], ?_, ?_⟩
                          · rw [show oldA.length + k = old.length + k by omega]
                            simp [List.getElem?_append, show old.length + k < old.length + vs.length by omega, hk2]
                          · have e : (oldA ++ new')[oldA.length + k] = new'[k] := by simp
                            rw [e]; exact hfj)
                      refine ⟨_, w1, _, m2, ?_, ev1.trans (ev.congr_left e1 e2), good⟩
                      refine .sl _ b' _ _ 0 _ _ w.heap.size _ elem (newCap * i.size) (bind2_same ..) m1 (fun e => by cases e) ?_ (by omega)
                      have hnew := heap_push_new m3
                      simp only [World.shape?, hnew]
                      simp only [List.size_toArray, m7]
                    unfold aappendTo at h'
                    split at h'
                    · -- an owned slice without spare places
                      rename_i b inc ver off len sz
                      cases hc : (sz == i.size && decide ((len + n) * i.bytes ≤ 140737488355328) && decide (len + n ≤ 140737488355328)) with
                      | false => rw [hc] at h'; cases h'
                      | true =>
                        rw [hc, cond_true] at h'
                        simp only [Bool.and_eq_true, beq_iff_eq, decide_eq_true_eq] at hc
                        obtain ⟨⟨rfl, hb1⟩, hb2⟩ := hc
                        cases hro : rowAt st1.heap b inc ver off (len * i.size) with
                        | none => rw [hro] at h'; cases h'
                        | some oldA =>
                          rw [hro] at h'
                          simp only at h'
                          generalize hr : rowId pol cx dst st1 = r2 at h'
                          obtain ⟨b', st2⟩ := r2
                          simp only [Option.some.injEq, Prod.mk.injEq] at h'
                          obtain ⟨rfl, rfl⟩ := h'
                          cases hs1 with
                          | sl _ _ _ _ _ _ _ g cap e N p1 p2 p3 p4 p5 =>
                            obtain ⟨r1, c, e', r2, r3⟩ := rowAt_ok g1 hro p1
                            have cellEq : ∀ {w' : World} (a : Addr), w'.heap = w.heap → w'.cell? a = w.cell? a := fun a hw => by unfold World.cell?; rw [hw]
                            refine moved _ len cap oldA ((List.range (len * i.size)).map fun j => c.getD (off + j) undef) rfl (p3 rfl) r1 (by simp) (fun w' hw => ?_) (fun j hj hj' => ?_) hb1 hb2 b' st2 hr
                            · simp only [Builtin.firstCells]
                              exact run_loadCells w' _ (len * i.size) (fun j => c.getD (off + j) undef) (fun j hj => by
                                obtain ⟨v, hv, _⟩ := r3 j (by omega)
                                rw [cellEq _ hw, addr_add, cell_of_cells r2, hv]
                                simp [Array.getD_eq_getD_getElem?, hv])
                            · simp only [List.getElem_map, List.getElem_range]
                              obtain ⟨v, hv, hf⟩ := r3 j hj'
                              have : c.getD (off + j) undef = v := by simp [Array.getD_eq_getD_getElem?, hv]
                              rw [this]; exact hf
                    · -- a frozen slice without spare places
                      rename_i tn len cells
                      cases hc : (cells.length == len * i.size && decide ((len + n) * i.bytes ≤ 140737488355328) && decide (len + n ≤ 140737488355328)) with
                      | false => rw [hc] at h'; cases h'
                      | true =>
                        rw [hc, cond_true] at h'
                        simp only [Bool.and_eq_true, beq_iff_eq, decide_eq_true_eq] at hc
                        obtain ⟨⟨hcl, hb1⟩, hb2⟩ := hc
                        generalize hr : rowId pol cx dst st1 = r2 at h'
                        obtain ⟨b', st2⟩ := r2
                        simp only [Option.some.injEq, Prod.mk.injEq] at h'
                        obtain ⟨rfl, rfl⟩ := h'
                        cases hs1 with
                        | fsl _ _ _ _ A cap us p1 p2 p3 p4 p5 =>
                          have cellEq : ∀ {w' : World} (a : Addr), w'.heap = w.heap → w'.cell? a = w.cell? a := fun a hw => by unfold World.cell?; rw [hw]
                          refine moved A len cap cells ((List.range (len * i.size)).map us) rfl (p2 rfl) hcl (by simp) (fun w' hw => ?_) (fun j hj hj' => ?_) hb1 hb2 b' st2 hr
                          · cases A with
                            | some a =>
                              simp only [Builtin.firstCells]
                              exact run_loadCells w' a (len * i.size) us (fun j hj => by
                                obtain ⟨a', e, _, b2⟩ := p4 j (by omega)
                                cases e; rw [cellEq _ hw]; exact b2)
                            | none =>
                              have h0 : len = 0 := by
                                apply Classical.byContradiction
                                intro hne
                                obtain ⟨a, ha⟩ := p3 (by omega)
                                cases ha
                              subst h0
                              simp [Builtin.firstCells]
                          · simp only [List.getElem_map, List.getElem_range]
                            exact p5 j hj'
                    · -- an owned slice that may have room
                      rename_i b inc ver len sz
                      cases hc : (sz == i.size && decide ((len + n) * i.bytes ≤ 140737488355328) && decide (len + n ≤ 140737488355328)) with
                      | false => rw [hc] at h'; cases h'
                      | true =>
                        rw [hc, cond_true] at h'
                        simp only [Bool.and_eq_true, beq_iff_eq, decide_eq_true_eq] at hc
                        obtain ⟨⟨rfl, hb1⟩, hb2⟩ := hc
                        cases hro : rowAt st1.heap b inc ver 0 (len * i.size) with
                        | none => rw [hro] at h'; cases h'
                        | some oldA =>
                          cases hlk : lkI b st1.heap with
                          | none => rw [hro, hlk] at h'; cases h'
                          | some blk =>
                            rw [hro, hlk] at h'
                            cases blk with
                            | map => cases h'
                            | iter => cases h'
                            | loop => cases h'
                            | row inc' cur low data cellsA =>
                              simp only [Option.some.injEq, Prod.mk.injEq] at h'
                              obtain ⟨rfl, rfl⟩ := h'
                              cases hs1 with
                              | sl _ _ _ _ _ _ _ g cap e N p1 p2 p3 p4 p5 =>
                                obtain ⟨r1, c, e', r2, r3⟩ := rowAt_ok g1 hro p1
                                have hro' := hro
                                unfold rowAt at hro'
                                rw [hlk] at hro'
                                simp only at hro'
                                cases hcc : (inc' == inc && cond (ver == cur) (Nat.ble (0 + len * i.size) cellsA.length) (Nat.ble (0 + len * i.size) low && Nat.ble (0 + len * i.size) cellsA.length)) with
                                | false => rw [hcc] at hro'; cases hro'
                                | true =>
                                  rw [hcc, cond_true] at hro'
                                  have hold := Option.some.inj hro'
                                  simp only [Bool.and_eq_true, beq_iff_eq] at hcc
                                  obtain ⟨rfl, hcc⟩ := hcc
                                  have hple : len * i.size ≤ cellsA.length := by
                                    by_cases hv : ver = cur
                                    · have h1 : (ver == cur) = true := by simpa using hv
                                      rw [h1, cond_true, Nat.ble_eq] at hcc; omega
                                    · have h1 : (ver == cur) = false := by simpa using hv
                                      rw [h1, cond_false, Bool.and_eq_true, Nat.ble_eq, Nat.ble_eq] at hcc; omega
                                  have holdA : oldA = cellsA.take (len * i.size) := by rw [← hold]; simp
                                  subst holdA
                                  have hpre : ∀ j (hj : j < cellsA.length), j < len * i.size → ∃ v, c[j]? = some v ∧ Fit ρ (Rs ρ st1.heap Res) T w cellsA[j] v := fun j hj hjp => by
                                    obtain ⟨v, hv, hf⟩ := r3 j (by simp; omega)
                                    rw [List.getElem_take] at hf
                                    exact ⟨v, by simpa using hv, hf⟩
                                  have hcsz : N = c.size := by
                                    rw [World.shape?, r2] at p4
                                    simp only [Option.some.injEq, Prod.mk.injEq] at p4
                                    exact p4.2.symm
                                  by_cases hroom : len + n ≤ cap
                                  · -- there is room
                                    have hrun := append_room (w := w) (ts := ts) (ty := ty) hus hux hxd hi ht0 ht1 q2 (q5 w rfl) hroom q4 r2 (by omega) hvone
                                    have hle : len * i.size + vs.length ≤ c.size := by
                                      rw [q4]
                                      have : (len + n) * i.size ≤ cap * i.size := Nat.mul_le_mul_right _ hroom
                                      rw [Nat.add_mul] at this; omega
                                    have hcs : (c.toList.take (len * i.size) ++ vs ++ c.toList.drop (len * i.size + vs.length)).toArray.size = c.size := by simp; omega
                                    have hget : ∀ j, (c.toList.take (len * i.size) ++ vs ++ c.toList.drop (len * i.size + vs.length)).toArray[j]? = if j < len * i.size then c[j]? else if j < len * i.size + vs.length then vs[j - len * i.size]? else c[j]? := fun j => by
                                      have := splice_get c.toList vs (len * i.size) (by simpa using hle) j
                                      simpa using this
                                    obtain ⟨ev, good⟩ := good_append (w' := w.setRow g (c.toList.take (len * i.size) ++ vs ++ c.toList.drop (len * i.size + vs.length)).toArray) g1 hlk (len * i.size) hple new' vs hfl g (by simp) rfl rfl rfl (.inl ⟨ver, p1⟩)
                                      (fun k _ hk => setRow_other w g k _ hk) (fun k x hx => shape_setRow r2 hcs hx) _ e' (setRow_heap w g c _ e' (0, 0) r2)
                                      (fun j hj hjp => by rw [hget j, if_pos hjp]; exact hpre j hj hjp)
                                      (fun j hj => by rw [hget, if_neg (by omega), if_pos (by omega)]; congr 1; omega)
                                      (fun c1 e1 hc1 j hj => by rw [r2] at hc1; cases hc1; rw [hget j, if_pos hj])
                                    refine ⟨_, _, _, hrun, ?_, ev1.trans ev, good⟩
                                    exact .sl _ b _ _ 0 _ _ g _ e N (bind2_same ..) hroom (fun e => by cases e) (shape_setRow r2 hcs p4) (by omega)
                                  · -- it moves
                                    have cellEq : ∀ {w' : World} (a : Addr), w'.heap = w.heap → w'.cell? a = w.cell? a := fun a hw => by unfold World.cell?; rw [hw]
                                    obtain ⟨newCap, rest, w1, m1, m2, m3, m4, m5, m6, m7⟩ := append_grows (w := w) (ts := ts) (ty := ty) (A := some ⟨g, 0, none⟩) (cap := cap) (old := (List.range (len * i.size)).map fun j => c.getD j undef) hus hux hxd hi hz ht0 ht1 q2 q5 (fun w' hw => by
                                      simp only [Builtin.firstCells]
                                      exact run_loadCells w' _ (len * i.size) (fun j => c.getD j undef) (fun j hj => by
                                        obtain ⟨v, hv, _⟩ := hpre j (by omega) hj
                                        rw [cellEq _ hw, addr_add, cell_of_cells r2, Nat.zero_add, hv]
                                        simp [Array.getD_eq_getD_getElem?, hv])) hb1 hb2 (by omega) q4 (by simp) hzs'
                                    have hg1lt : g < w.heap.size := g1.lt _ _ _ p1
                                    have hs1 : w1.heap.size = w.heap.size + 1 := by rw [m3]; simp
                                    obtain ⟨ev, good⟩ := good_append (w' := w1) g1 hlk (len * i.size) hple new' vs hfl w.heap.size (by omega) m4 m5 m6 (.inr ⟨Nat.le_refl _, by omega⟩)
                                      (fun k hk _ => heap_push_old m3 hk) (fun k x hx => shape_push m3 hx) _ elem (heap_push_new m3)
                                      (fun j hj hjp => by
                                        obtain ⟨v, hv, hf⟩ := hpre j hj hjp
                                        refine ⟨v, ?_, hf⟩
                                        simp [List.getElem?_append, hjp, show j < len * i.size + vs.length by omega, Array.getD_eq_getD_getElem?, hv])
                                      (fun j hj => by
                                        simp [List.getElem?_append, show len * i.size + j < len * i.size + vs.length by omega, show ¬ (len * i.size + j < len * i.size) by omega]
                                        omega)
                                      (fun c1 e1 hc1 j hj => by
                                        have := (Array.getElem?_eq_some_iff.1 hc1).1; omega)
                                    refine ⟨_, _, _, m2, ?_, ev1.trans ev, good⟩
                                    refine .sl _ b _ _ 0 _ _ w.heap.size _ elem (newCap * i.size) (bind2_same ..) m1 (fun e => by cases e) ?_ (by omega)
                                    have hnew := heap_push_new m3
                                    simp only [World.shape?, hnew]
                                    simp only [List.size_toArray, m7]
                    · cases h'
      | _ => cases h

/-! ### stores -/
theorem putCells_run {Res : Nat → Prop} {st st' : St} (hg : Good ρ Res T st w) {b : Id} {inc ver off : Nat} {vs : List AVal} (hp : putCells b inc ver off vs st = some st') {g : Nat} (hr : ρ inc ver = some g) {xs : List Value}
    (hxs : FitL ρ (Rs ρ st.heap Res) T w vs xs) (ho : vs.all AVal.one = true) : ∃ w', (storeCells ⟨g, off, none⟩ xs).run P w = .ok () w' ∧ Ev ρ ρ st st' w w' ∧ Good ρ Res T st' w' := by
  obtain ⟨c, e, h1, h2, h3, h4⟩ := good_put hg hp hr hxs
  have hst := run_storeCells_at (P := P) g off e xs 0 c w h1 (by omega) (all_one hxs ho)
  simp only [Nat.add_zero] at hst
  exact ⟨_, hst, h3, h4⟩

theorem fit_toList {v : AVal} {x : Value} (h : Fit ρ R T w v x) : FitL ρ R T w v.cellsOf x.cells.toList := by
  obtain ⟨h1, h2⟩ := fit_cells h
  refine ⟨by simpa using h1, fun j hj => ?_⟩
  have := h2 j hj
  rw [Array.getD_eq_getD_getElem?] at this
  rw [List.getD_eq_getElem?_getD, Array.getElem?_toList]; exact this

theorem astore_ok {Res : Nat → Prop} {st st' : St} (hg : Good ρ Res T st w) {cx : Cx} {t : TypeId} {a v : AVal} {A X : Value} (h : astore pol cx P t a v st = some st') (ha : Fit ρ (Rs ρ st.heap Res) T w a A) (hx : Fit ρ (Rs ρ st.heap Res) T w v X) :
    ∃ w' ρ', (Instr.storeAt t A X).run P w = .ok () w' ∧ Ev ρ ρ' st st' w w' ∧ Good ρ' Res T st' w' := by
  unfold astore at h
  cases hs : szT P t with
  | none => rw [hs] at h; cases h
  | some n =>
    rw [hs] at h
    cases a with
    | ptr b inc ver off =>
      simp only at h
      cases hc : (v.cellsOf.length == n && v.cellsOf.all AVal.one) with
      | false => rw [hc] at h; cases h
      | true =>
        rw [hc, cond_true] at h
        simp only [Bool.and_eq_true, beq_iff_eq] at hc
        obtain ⟨hc1, hc2⟩ := hc
        cases ha with
        | ptr _ _ _ _ g h1 =>
          have hfl := fit_toList hx
          have hsz : X.cells.size = n := by
            have := (fit_cells hx).1; omega
          have fin : ∀ {st1 : St} {vs : List AVal} {ρ1 : Loc}, Ev ρ ρ1 st st1 w w → Good ρ1 Res T st1 w → ρ1 inc ver = some g → putCells b inc ver off vs st1 = some st' → FitL ρ1 (Rs ρ1 st1.heap Res) T w vs X.cells.toList → vs.all AVal.one = true →
              ∃ w' ρ', (Instr.storeAt t (.pointer (some ⟨g, off, none⟩)) X).run P w = .ok () w' ∧ Ev ρ ρ' st st' w w' ∧ Good ρ' Res T st' w' := by
            intro st1 vs ρ1 ev1 g1 hr hp hf ho
            obtain ⟨w', b1, b2, b3⟩ := putCells_run (P := P) g1 hp hr hf ho
            refine ⟨w', ρ1, ?_, ev1.trans b2, b3⟩
            simp only [Instr.storeAt, Instr.sureAddr, storeVar, Sem.run_bind, Sem.run_pure, Result.andThen_ok, run_size hs]
            rw [if_neg (by simp [hsz])]
            exact b1
          cases hd : isData st.heap b with
          | false =>
            rw [hd, cond_false] at h
            exact fin (Ev.refl ..) hg h1 h hfl hc2
          | true =>
            rw [hd, cond_true] at h
            generalize hf : frzData pol cx v.cellsOf st = r at h
            obtain ⟨vs, st1⟩ := r
            simp only at h
            obtain ⟨ev1, g1, l1, o1, k1, f1⟩ := frzData_ok hg hf (fun j => X.cells.toList.getD j undef) hfl.2
            exact fin ev1 g1 h1 h ⟨by rw [l1]; exact hfl.1, f1⟩ (by rw [o1]; exact hc2)
    | _ => cases h

theorem acopy_ok {Res : Nat → Prop} {st st' : St} (hg : Good ρ Res T st w) {cx : Cx} {dT : TypeId} {d x v : AVal} {D X : Value} {ts : Array TypeId} {ty : TypeId} (h : acopy pol cx P dT d x st = some (v, st'))
    (hd : Fit ρ (Rs ρ st.heap Res) T w d D) (hx : Fit ρ (Rs ρ st.heap Res) T w x X) (ht0 : ts[0]? = some dT) : Loud P ρ Res T st st' w (Builtin.copy_ ts ty #[D, X]) v := by
  unfold acopy at h
  cases hu : P.underlying dT with
  | none => rw [hu] at h; cases h
  | some dd =>
    rw [hu] at h
    cases dd with
    | slice elem =>
      simp only at h
      cases hs : szT P elem with
      | none => rw [hs] at h; cases h
      | some sz =>
        rw [hs] at h
        simp only at h
        cases hsrc : asource st sz x with
        | none => rw [hsrc] at h; cases d <;> simp at h
        | some p =>
          obtain ⟨n, cells⟩ := p
          rw [hsrc] at h
          obtain ⟨q1, q2, q3⟩ := asource_ok (P := P) hg hsrc hx
          split at h
          · rename_i cx' b inc ver off len sz' n0 cells0 he
            cases he
            cases hc : (sz' == sz && cells.all AVal.one) with
            | false => rw [hc] at h; cases h
            | true =>
              rw [hc, cond_true] at h
              simp only [Bool.and_eq_true, beq_iff_eq] at hc
              obtain ⟨rfl, hc2⟩ := hc
              generalize hf : frzData pol cx (cells.take (Nat.min n len * sz')) st = r at h
              obtain ⟨vs, st1⟩ := r
              simp only at h
              cases hp : putCells b inc ver off vs st1 with
              | none => rw [hp] at h; cases h
              | some st2 =>
                rw [hp] at h
                simp only [Option.some.injEq, Prod.mk.injEq] at h
                obtain ⟨rfl, rfl⟩ := h
                cases hd with
                | sl _ _ _ _ _ _ _ g cap e N g1 g2 g3 g4 g5 =>
                  obtain ⟨us, u1, u2, u3⟩ := q3 (Nat.min n len) (Nat.min_le_left _ _)
                  have hmn : Nat.min n len * sz' ≤ n * sz' := Nat.mul_le_mul_right _ (Nat.min_le_left _ _)
                  have htl : (cells.take (Nat.min n len * sz')).length = us.length := by simp; omega
                  obtain ⟨ev1, gg1, l1, o1, k1, f1⟩ := frzData_ok hg hf (fun j => us.getD j undef) (fun j hj => by
                    have hj' : j < us.length := by omega
                    show Fit _ _ _ _ _ (us.getD j undef)
                    rw [List.getD_eq_getElem?_getD, List.getElem?_eq_getElem hj', Option.getD_some, List.getElem_take]
                    exact u3 j hj' (by omega))
                  have hall : vs.all AVal.one = true := by
                    rw [o1]
                    rw [List.all_eq_true]
                    intro y hy
                    exact List.all_eq_true.1 hc2 y (List.mem_of_mem_take hy)
                  obtain ⟨w', b1, b2, b3⟩ := putCells_run (P := P) gg1 hp g1 (xs := us) ⟨by omega, f1⟩ hall
                  refine ⟨.int .i64 (Nat.min n len : Nat), w', ρ, ?_, .int .i64 _, ev1.trans b2, b3⟩
                  simp only [Builtin.copy_, ht0, List.size_toArray, List.length_cons, List.getElem?_toArray, List.getElem?_cons_zero, List.getElem?_cons_succ, Sem.run_bind, run_underlying hu, Result.andThen_ok, q2, run_size hs, u2 w rfl, b1, Sem.run_pure, goInt]
          · rename_i tn cx' cells' p0 he
            simp only [Option.some.injEq, Prod.mk.injEq] at h
            obtain ⟨rfl, rfl⟩ := h
            cases hd with
            | fsl _ _ _ _ A cap us h1 h2 h3 h4 h5 =>
              obtain ⟨vs, u1, u2, u3⟩ := q3 0 (Nat.zero_le _)
              have : vs = [] := List.eq_nil_of_length_eq_zero (by omega)
              subst this
              refine ⟨.int .i64 0, w, ρ, ?_, .int .i64 0, Ev.refl .., hg⟩
              have hmin : Nat.min n 0 = 0 := Nat.min_eq_right (Nat.zero_le _)
              simp only [Builtin.copy_, ht0, List.size_toArray, List.length_cons, List.getElem?_toArray, List.getElem?_cons_zero, List.getElem?_cons_succ, Sem.run_bind, run_underlying hu, Result.andThen_ok, q2, run_size hs, hmin, u2 w rfl, Sem.run_pure, goInt]
              cases A <;> simp [storeCells]
          · cases h
    | _ => cases h

theorem zeroRow_one_all {zs : List AVal} (h : zs.all AVal.one = true) (h0 : 0 < zs.length) (n : Nat) : (zeroRow zs n).all AVal.one = true := by
  rw [List.all_eq_true] at h ⊢
  intro x hx
  obtain ⟨i, _, rfl⟩ := List.mem_map.1 hx
  have hi : i % zs.length < zs.length := Nat.mod_lt _ h0
  rw [List.getD_eq_getElem?_getD, List.getElem?_eq_getElem hi, Option.getD_some]
  exact h _ (List.getElem_mem hi)

theorem aclear_ok {Res : Nat → Prop} {st st' : St} (hg : Good ρ Res T st w) {t : TypeId} {x : AVal} {X : Value} {ts : Array TypeId} {ty : TypeId} (h : aclear P t x st = some st')
    (hx : Fit ρ (Rs ρ st.heap Res) T w x X) (ht0 : ts[0]? = some t) : Loud P ρ Res T st st' w (Builtin.clear_ ts ty #[X]) .undef := by
  unfold aclear at h
  cases hu : P.underlying t with
  | none => rw [hu] at h; cases h
  | some d =>
    rw [hu] at h
    cases d with
    | slice elem =>
      cases x with
      | sl cxb b inc ver off len sz =>
        simp only at h
        cases hs : szT P elem with
        | none => rw [hs] at h; cases h
        | some n =>
          cases hz : zeroT P elem with
          | none => rw [hs, hz] at h; cases h
          | some z =>
            rw [hs, hz] at h
            simp only at h
            cases hc : (n == sz && z.cellsOf.length == n && z.cellsOf.all AVal.one && Nat.blt 0 n) with
            | false => rw [hc] at h; cases h
            | true =>
              rw [hc, cond_true] at h
              simp only [Bool.and_eq_true, beq_iff_eq] at hc
              obtain ⟨⟨⟨rfl, c2⟩, c3⟩, c4⟩ := hc
              have hn0 : 0 < n := by simpa using c4
              cases hx with
              | sl _ _ _ _ _ _ _ g cap e N g1 g2 g3 g4 g5 =>
                cases hl : (len == 0) with
                | true =>
                  rw [hl, cond_true] at h
                  cases h
                  have hl0 : len = 0 := by simpa using hl
                  subst hl0
                  refine ⟨.tuple #[], w, ρ, ?_, .tuple [] #[] rfl (fun j h => by simp at h), Ev.refl .., hg⟩
                  simp [Builtin.clear_, ht0, Sem.run_bind, run_underlying hu, Result.andThen_ok, Sem.run_pure]
                | false =>
                  rw [hl, cond_false] at h
                  have hl0 : len ≠ 0 := by simpa using hl
                  obtain ⟨zv, z1, z2⟩ := run_zero hz w
                  have hzf := ofVal_ok ρ (Rs ρ st.heap Res) T w 4 zv z z2
                  obtain ⟨a1, a2⟩ := fit_cells hzf
                  obtain ⟨b1, b2⟩ := zeroRow_fit (ρ := ρ) (R := Rs ρ st.heap Res) (T := T) (w := w) (zs := z.cellsOf) (zc := zv.cells) a1 a2 (len * n) (fun _ => by omega)
                  have hzc : (Builtin.zeroCells zv.cells len) = (Array.range (len * n)).map (zv.cells[· % zv.cells.size]!) := by
                    unfold Builtin.zeroCells
                    rw [a1, c2]
                  obtain ⟨w', e1, e2, e3⟩ := putCells_run (P := P) hg h g1 (xs := (Builtin.zeroCells zv.cells len).toList) ⟨by rw [hzc]; simpa using b1, fun j hj => by
                    have := b2 j hj
                    rw [hzc]
                    rw [Array.getD_eq_getD_getElem?] at this
                    rw [List.getD_eq_getElem?_getD, Array.getElem?_toList]
                    exact this⟩ (zeroRow_one_all c3 (by omega) _)
                  refine ⟨.tuple #[], w', ρ, ?_, .tuple [] #[] rfl (fun j h => by simp at h), e2, e3⟩
                  obtain ⟨m, rfl⟩ : ∃ m, len = m + 1 := ⟨len - 1, by omega⟩
                  simp only [Builtin.clear_, ht0, List.getElem?_toArray, List.getElem?_cons_zero, Sem.run_bind, run_underlying hu, Result.andThen_ok, z1, e1, Sem.run_pure]
      | fsl tn cxb len cells =>
        cases len with
        | succ => cases h
        | zero =>
          cases h
          cases hx with
          | fsl _ _ _ _ A cap us h1 h2 h3 h4 h5 h6 =>
            refine ⟨.tuple #[], w, ρ, ?_, .tuple [] #[] rfl (fun j h => by simp at h), Ev.refl .., hg⟩
            cases A <;> simp [Builtin.clear_, ht0, Sem.run_bind, run_underlying hu, Result.andThen_ok, Sem.run_pure]
      | _ => cases h
    | _ => cases x <;> cases h

end Go.Ax
