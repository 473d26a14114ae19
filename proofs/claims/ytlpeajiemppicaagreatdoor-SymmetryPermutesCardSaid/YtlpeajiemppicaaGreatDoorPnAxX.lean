/- Each abstract operation stands for the model's: blocks made. -/
import Derived.Test.YtlpeajiemppicaaGreatDoorPnAxW
import Derived.Laws.Append
namespace Go.Ax
set_option linter.unusedVariables false
set_option linter.unusedSimpArgs false

variable {P : Program} {pol : Pol} {ρ : Loc} {R T : Nat → Prop} {w : World}

theorem Good.congr {Res : Nat → Prop} {st st1 : St} (h : Good ρ Res T st w) (hc : st1.clock = st.clock) (hh : st1.heap = st.heap) : Good ρ Res T st1 w where
  inj := h.inj
  lt := h.lt
  fresh := by rw [hc]; exact h.fresh
  ids := by rw [hh]; exact h.ids
  blk := by rw [hh]; exact h.blk
  sep := by rw [hh]; exact h.sep
  res := h.res
  tnt := h.tnt

theorem Ev.congr_left {ρ' : Loc} {st st1 st' : St} {w' : World} (h : Ev ρ ρ' st1 st' w w') (hc : st1.clock = st.clock) (hh : st1.heap = st.heap) : Ev ρ ρ' st st' w w' where
  ext := h.ext
  new := by rw [← hh]; exact h.new
  frame := by rw [← hh]; exact h.frame
  size := h.size
  shape := h.shape
  os := h.os
  tape := h.tape
  output := h.output
  clock := by rw [← hc]; exact h.clock
  old := by rw [← hc]; exact h.old

theorem rowId_ok {cx : Cx} {dst : Nat} {st st1 : St} {b : Id} (h : rowId pol cx dst st = (b, st1)) : st1.clock = st.clock ∧ st1.heap = st.heap := by
  unfold rowId at h
  cases hf : pol.fresh cx.fn dst <;> rw [hf] at h <;> simp only [cond_true, cond_false, Prod.mk.injEq] at h <;> obtain ⟨rfl, rfl⟩ := h <;> exact ⟨rfl, rfl⟩

theorem cells_get {cells : List AVal} {c : Array Value} (hs : c.size = cells.length) (hf : ∀ j (h : j < cells.length), Fit ρ R T w cells[j] (c.getD j undef)) : ∀ j (hj : j < cells.length), ∃ v, c[j]? = some v ∧ Fit ρ R T w cells[j] v := fun j hj => by
  have h1 : j < c.size := by omega
  have := hf j hj
  rw [Array.getD_eq_getD_getElem?, Array.getElem?_eq_getElem h1, Option.getD_some] at this
  exact ⟨c[j], Array.getElem?_eq_getElem h1, this⟩

/-- What an operation that touches the state comes to. -/
def Loud (P : Program) (ρ : Loc) (Res T : Nat → Prop) (st st' : St) (w : World) (s : Sem Value) (v : AVal) : Prop :=
  ∃ z w' ρ', s.run P w = .ok z w' ∧ Fit ρ' (Rs ρ' st'.heap Res) T w' v z ∧ Ev ρ ρ' st st' w w' ∧ Good ρ' Res T st' w'

theorem newVar_ok {Res : Nat → Prop} {st : St} (hg : Good ρ Res T st w) (b : Id) (t : TypeId) {a : AVal} {X : Value} (hx : Fit ρ (Rs ρ st.heap Res) T w a X) :
    ∃ w', (do pure (.pointer (some (← newVar t X))) : Sem Value).run P w = .ok (.pointer (some ⟨w.heap.size, 0, none⟩)) w' ∧
      Fit (bind2 ρ st.clock st.clock w.heap.size) (Rs (bind2 ρ st.clock st.clock w.heap.size) (newRow b false a.cellsOf st).heap Res) T w' (.ptr b st.clock st.clock 0) (.pointer (some ⟨w.heap.size, 0, none⟩)) ∧
      Ev ρ (bind2 ρ st.clock st.clock w.heap.size) st (newRow b false a.cellsOf st) w w' ∧ Good (bind2 ρ st.clock st.clock w.heap.size) Res T (newRow b false a.cellsOf st) w' := by
  obtain ⟨a1, a2⟩ := fit_cells hx
  obtain ⟨ev, good⟩ := good_new_row (w' := { w with heap := w.heap.push (.cells X.cells t) }) hg b false a.cellsOf X.cells t rfl rfl rfl rfl (cells_get a1 a2)
  exact ⟨_, by simp [newVar, newRow, Go.newRow], .ptr b _ _ 0 _ (bind2_same ..), ev, good⟩

theorem box_ok {Res : Nat → Prop} {st : St} (hg : Good ρ Res T st w) (b : Id) (t : TypeId) {a : AVal} {X : Value} (hx : Fit ρ (Rs ρ st.heap Res) T w a X) :
    Loud P ρ Res T st (newRow b false a.cellsOf st) w (Instr.box t X) (.ptr b st.clock st.clock 0) := by
  obtain ⟨w', h1, h2, h3, h4⟩ := newVar_ok (P := P) hg b t hx
  exact ⟨_, w', _, h1, h2, h3, h4⟩

theorem alloc_ok {Res : Nat → Prop} {st : St} (hg : Good ρ Res T st w) (b : Id) (t : TypeId) {z : AVal} (hz : zeroT P t = some z) (x : Value) :
    Loud P ρ Res T st (newRow b false z.cellsOf st) w (Instr.alloc t true x) (.ptr b st.clock st.clock 0) := by
  obtain ⟨zv, z1, z2⟩ := run_zero hz w
  obtain ⟨w', h1, h2, h3, h4⟩ := newVar_ok (P := P) hg b t (ofVal_ok ρ (Rs ρ st.heap Res) T w 4 zv z z2)
  refine ⟨_, w', _, ?_, h2, h3, h4⟩
  simp only [Instr.alloc, Sem.run_bind, z1, Result.andThen_ok]
  simpa only [Sem.run_bind] using h1

/-! ### zero rows -/
theorem zeroRow_ok {zs : List AVal} {zc : Array Value} (hs : zc.size = zs.length) (hf : ∀ j (h : j < zs.length), Fit ρ R T w zs[j] (zc.getD j undef)) (n m : Nat) (hm : n ≤ m) (h0 : 0 < n → 0 < zs.length) :
    (zeroRow zs n).length = n ∧ ∀ j (hj : j < (zeroRow zs n).length), ∃ v, ((Array.range m).map (zc[· % zc.size]!))[j]? = some v ∧ Fit ρ R T w (zeroRow zs n)[j] v := by
  have hl : (zeroRow zs n).length = n := by simp [zeroRow]
  refine ⟨hl, fun j hj => ?_⟩
  rw [hl] at hj
  have hz := h0 (by omega)
  have hj' : j % zs.length < zs.length := Nat.mod_lt _ hz
  have hj2 : j % zc.size < zc.size := by rw [hs]; exact hj'
  have e1 : (zeroRow zs n)[j] = zs[j % zs.length] := by
    simp only [zeroRow, List.getElem_map, List.getElem_range, List.getD_eq_getElem?_getD, List.getElem?_eq_getElem hj', Option.getD_some]
  have hj3 : j % zs.length < zc.size := by omega
  refine ⟨zc[j % zs.length], ?_, ?_⟩
  · have hjm : j < m := by omega
    simp only [Array.getElem?_map, Array.getElem?_range, hjm, if_true, Option.map_some, hs]
    rw [getElem!_pos (c := zc) (i := j % zs.length) (h := hj3)]
  · rw [e1]
    have := hf _ hj'
    rw [Array.getD_eq_getD_getElem?, Array.getElem?_eq_getElem hj3, Option.getD_some] at this
    exact this

theorem zeroRow_fit {zs : List AVal} {zc : Array Value} (hs : zc.size = zs.length) (hf : ∀ j (h : j < zs.length), Fit ρ R T w zs[j] (zc.getD j undef)) (n : Nat) (h0 : 0 < n → 0 < zs.length) :
    ((Array.range n).map (zc[· % zc.size]!)).size = (zeroRow zs n).length ∧ ∀ j (hj : j < (zeroRow zs n).length), Fit ρ R T w (zeroRow zs n)[j] (((Array.range n).map (zc[· % zc.size]!)).getD j undef) := by
  obtain ⟨h1, h2⟩ := zeroRow_ok (ρ := ρ) (R := R) (T := T) (w := w) hs hf n n (Nat.le_refl _) h0
  refine ⟨by simp [h1], fun j hj => ?_⟩
  obtain ⟨v, hv, hfit⟩ := h2 j hj
  rw [Array.getD_eq_getD_getElem?, hv]; exact hfit

theorem makeSlice_ok {Res : Nat → Prop} {st st' : St} (hg : Good ρ Res T st w) {cx : Cx} {dst : Nat} {t : TypeId} {l c v : AVal} {X Y : Value} (h : amakeSlice pol cx P dst t l c st = some (v, st'))
    (hl : Fit ρ (Rs ρ st.heap Res) T w l X) (hc : Fit ρ (Rs ρ st.heap Res) T w c Y) : Loud P ρ Res T st st' w (Instr.makeSlice t X Y) v := by
  unfold amakeSlice at h
  split at h
  · rename_i elem _ l _ c hu
    cases hl; cases hc
    cases hi : P.info? elem with
    | none => rw [hi] at h; cases h
    | some i =>
      rw [hi] at h
      simp only at h
      cases hz : zeroT P elem with
      | none => rw [hz] at h; cases h
      | some z =>
        rw [hz] at h
        simp only at h
        cases hcnd : (decide (0 ≤ l) && decide (l ≤ c) && decide (c ≤ 281474976710656) && decide ((i.bytes : Int) * c ≤ 281474976710656) && z.cellsOf.length == i.size && z.cellsOf.all AVal.one) with
        | false => rw [hcnd] at h; cases h
        | true =>
          rw [hcnd, cond_true] at h
          simp only [Bool.and_eq_true, decide_eq_true_eq, beq_iff_eq] at hcnd
          obtain ⟨⟨⟨⟨⟨c1, c2⟩, c3⟩, c4⟩, c5⟩, c6⟩ := hcnd
          generalize hr : rowId pol cx dst st = r at h
          obtain ⟨b, st1⟩ := r
          simp only [Option.some.injEq, Prod.mk.injEq] at h
          obtain ⟨rfl, rfl⟩ := h
          obtain ⟨e1, e2⟩ := rowId_ok hr
          obtain ⟨zv, z1, z2⟩ := run_zero hz w
          have hsz : szT P elem = some i.size := by simp [szT, hi]
          obtain ⟨a1, a2⟩ := fit_cells (ofVal_ok ρ (Rs ρ st.heap Res) T w 4 zv z z2)
          have wl : IntKind.i64.wrap l = l := by
            have hb : (2 : Int) ^ IntKind.i64.bits = 18446744073709551616 := by decide
            have hb2 : (2 : Int) ^ (IntKind.i64.bits - 1) = 9223372036854775808 := by decide
            have hs : IntKind.i64.signed = true := rfl
            simp only [IntKind.wrap, hb, hb2, hs, Bool.true_and, decide_eq_true_eq]
            rw [Int.emod_eq_of_lt (by omega) (by omega), if_neg (by omega)]
          have wc : IntKind.i64.wrap c = c := by
            have hb : (2 : Int) ^ IntKind.i64.bits = 18446744073709551616 := by decide
            have hb2 : (2 : Int) ^ (IntKind.i64.bits - 1) = 9223372036854775808 := by decide
            have hs : IntKind.i64.signed = true := rfl
            simp only [IntKind.wrap, hb, hb2, hs, Bool.true_and, decide_eq_true_eq]
            rw [Int.emod_eq_of_lt (by omega) (by omega), if_neg (by omega)]
          -- the row's cells
          obtain ⟨zc, hzc, hzcell⟩ : ∃ zc : Array Value, (∀ w', (if c.toNat * i.size = 0 then pure #[] else do pure (← zeroValue elem).cells : Sem (Array Value)).run P w' = .ok zc w') ∧
              ∀ j (hj : j < (zeroRow z.cellsOf (l.toNat * i.size)).length), ∃ v, ((Array.range (c.toNat * i.size)).map (zc[· % zc.size]!))[j]? = some v ∧ Fit ρ (Rs ρ st.heap Res) T w (zeroRow z.cellsOf (l.toNat * i.size))[j] v := by
            by_cases h0 : c.toNat * i.size = 0
            · refine ⟨#[], fun w' => by rw [if_pos h0]; rfl, fun j hj => ?_⟩
              have : l.toNat * i.size ≤ c.toNat * i.size := Nat.mul_le_mul_right _ (by omega)
              simp [zeroRow] at hj
              omega
            · refine ⟨zv.cells, fun w' => ?_, (zeroRow_ok a1 a2 _ _ (Nat.mul_le_mul_right _ (by omega)) (fun h => ?_)).2⟩
              · rw [if_neg h0]
                obtain ⟨zv', y1, y2⟩ := run_zero hz w'
                have : zv' = zv := by
                  simp only [zeroValue, Sem.run_bind, run_info hi, Result.andThen_ok] at z1 y1
                  cases hzz : i.zero with
                  | none => rw [hzz] at z1; simp at z1
                  | some z0 => rw [hzz] at z1 y1; simp at z1 y1; rw [← z1, ← y1]
                subst this
                simp [y1]
              · rw [c5]
                apply Nat.pos_of_ne_zero
                intro e; rw [e] at h; omega
          obtain ⟨ev, good⟩ := good_new_row (w' := { w with heap := w.heap.push (.cells ((Array.range (c.toNat * i.size)).map (zc[· % zc.size]!)) elem) }) (hg.congr e1 e2) b true (zeroRow z.cellsOf (l.toNat * i.size)) _ elem rfl rfl rfl rfl (by rw [e2]; exact hzcell)
          refine ⟨.slice (some ⟨w.heap.size, 0, none⟩) l.toNat c.toNat, _, _, ?_, ?_, ev.congr_left e1 e2, good⟩
          · have hnl : ¬ ((c < 0 ∨ (i.bytes : Int) * c > 2 ^ 48) ∨ l < 0 ∨ l > c) := by
              have : (2 : Int) ^ 48 = 281474976710656 := by decide
              omega
            simp only [Instr.makeSlice, Sem.run_bind, run_underlying hu, Result.andThen_ok, asInt, asIntOf, Sem.run_pure, run_info hi, wl, wc]
            rw [if_neg (by
              simp only [Bool.or_eq_true, decide_eq_true_eq]
              have : (2 : Int) ^ 48 = 281474976710656 := by decide
              omega)]
            simp only [Sem.run_bind, run_askRoom, Result.andThen_ok, run_size hsz, Go.newRow]
            have hzw := hzc w
            by_cases h0 : c.toNat * i.size = 0
            · rw [if_pos h0] at hzw ⊢
              simp only [Sem.run_pure, Result.ok.injEq, and_true] at hzw
              subst hzw
              simp only [Sem.run_bind, Sem.run_pure, Result.andThen_ok, run_newObj]
            · rw [if_neg h0] at hzw ⊢
              simp only [Sem.run_bind, z1, Result.andThen_ok, Sem.run_pure, Result.ok.injEq, and_true] at hzw
              subst hzw
              simp only [Sem.run_bind, z1, Sem.run_pure, Result.andThen_ok, run_newObj]
          · refine .sl _ b _ _ 0 _ _ w.heap.size _ elem (c.toNat * i.size) (bind2_same ..) (by omega) (fun e => ?_) ?_ (by omega)
            · have : l = c := by simpa using e
              rw [this]
            · simp [World.shape?]
  · cases h

theorem buildSlice_ok {Res : Nat → Prop} {st st' : St} (hg : Good ρ Res T st w) {cx : Cx} {dst : Nat} {t : TypeId} {len : Nat} {parts : List (Nat × AVal)} {xs : Array (Nat × Value)} {v : AVal}
    (h : abuildSlice pol cx P dst t len parts st = some (v, st')) (hp : FitParts ρ (Rs ρ st.heap Res) T w parts xs.toList) : Loud P ρ Res T st st' w (Instr.buildSlice t len xs) v := by
  unfold abuildSlice at h
  cases hu : P.underlying t with
  | none => rw [hu] at h; cases h
  | some d =>
    rw [hu] at h
    cases d with
    | slice elem =>
      simp only at h
      cases hs : szT P elem with
      | none => rw [hs] at h; cases h
      | some n =>
        cases hz : zeroT P elem with
        | none => rw [hs, hz] at h; cases h
        | some z =>
          rw [hs, hz] at h
          simp only at h
          cases hc : (Nat.ble (len * n) 16777216 && z.cellsOf.length == n) with
          | false => rw [hc] at h; cases h
          | true =>
            rw [hc, cond_true] at h
            simp only [Bool.and_eq_true, Nat.ble_eq, beq_iff_eq] at hc
            cases hf : afill (fun i => some (i * n, n)) (zeroRow z.cellsOf (len * n)) parts with
            | none => rw [hf] at h; cases h
            | some cells =>
              rw [hf] at h
              simp only at h
              cases ho : cells.all AVal.one with
              | false => rw [ho] at h; cases h
              | true =>
                rw [ho, cond_true] at h
                generalize hd : frzData pol cx cells st = r at h
                obtain ⟨cells', st1⟩ := r
                simp only at h
                generalize hr : rowId pol cx dst st1 = r2 at h
                obtain ⟨b, st2⟩ := r2
                simp only [Option.some.injEq, Prod.mk.injEq] at h
                obtain ⟨rfl, rfl⟩ := h
                obtain ⟨e1, e2⟩ := rowId_ok hr
                obtain ⟨zv, z1, z2⟩ := run_zero hz w
                obtain ⟨a1, a2⟩ := fit_cells (ofVal_ok ρ (Rs ρ st.heap Res) T w 4 zv z z2)
                -- the row's cells
                obtain ⟨zc, cs', hrun, hfill, hcs, hfit⟩ : ∃ (zc cs' : Array Value), (if len * n = 0 then pure #[] else do pure (← zeroValue elem).cells : Sem (Array Value)).run P w = .ok zc w ∧
                    Instr.fill (fun i => some (i * n, n)) ((Array.range (len * n)).map (zc[· % zc.size]!)) xs.toList = some cs' ∧ cs'.size = cells.length ∧ ∀ j (h : j < cells.length), Fit ρ (Rs ρ st.heap Res) T w cells[j] (cs'.getD j undef) := by
                  by_cases h0 : len * n = 0
                  · obtain ⟨b1, b2⟩ := zeroRow_fit (ρ := ρ) (R := Rs ρ st.heap Res) (T := T) (w := w) (zs := z.cellsOf) (zc := zv.cells) a1 a2 (len * n) (fun h => by omega)
                    have he : (Array.range (len * n)).map (zv.cells[· % zv.cells.size]!) = (Array.range (len * n)).map ((#[] : Array Value)[· % (#[] : Array Value).size]!) := by rw [h0]; simp
                    rw [he] at b1 b2
                    obtain ⟨cs', c1, c2, c3, c4⟩ := afill_ok (place' := fun i => some (i * n, n)) (fun i p hp => hp) hf hp b1 b2
                    exact ⟨#[], cs', by rw [if_pos h0]; rfl, c1, c2, c4⟩
                  · obtain ⟨b1, b2⟩ := zeroRow_fit (ρ := ρ) (R := Rs ρ st.heap Res) (T := T) (w := w) (zs := z.cellsOf) (zc := zv.cells) a1 a2 (len * n) (fun h => by
                      rw [hc.2]
                      apply Nat.pos_of_ne_zero
                      intro e; rw [e] at h; omega)
                    obtain ⟨cs', c1, c2, c3, c4⟩ := afill_ok (place' := fun i => some (i * n, n)) (fun i p hp => hp) hf hp b1 b2
                    exact ⟨zv.cells, cs', by rw [if_neg h0]; simp [z1], c1, c2, c4⟩
                obtain ⟨ev1, g1, l1, o1, k1, f1⟩ := frzData_ok hg hd (fun j => cs'.getD j undef) hfit
                have hg2 := g1.congr e1 e2
                obtain ⟨ev, good⟩ := good_new_row (w' := { w with heap := w.heap.push (.cells cs' elem) }) hg2 b true cells' cs' elem rfl rfl rfl rfl (cells_get (by omega) (fun j hj => by rw [e2]; exact f1 j hj))
                refine ⟨.slice (some ⟨w.heap.size, 0, none⟩) len len, _, _, ?_, ?_, ev1.trans (ev.congr_left e1 e2), good⟩
                · simp only [Instr.buildSlice, Sem.run_bind, run_underlying hu, Result.andThen_ok, run_size hs]
                  rw [if_neg (by
                    have : (2 : Nat) ^ 24 = 16777216 := by decide
                    omega)]
                  by_cases h0 : len * n = 0
                  · rw [if_pos h0] at hrun ⊢
                    simp only [Sem.run_pure, Result.ok.injEq, and_true] at hrun
                    subst hrun
                    simp only [Sem.run_bind, Sem.run_pure, Result.andThen_ok, hfill, Go.newRow, run_newObj]
                  · rw [if_neg h0] at hrun ⊢
                    simp only [Sem.run_bind, z1, Result.andThen_ok, Sem.run_pure, Result.ok.injEq, and_true] at hrun
                    subst hrun
                    simp only [Sem.run_bind, z1, Sem.run_pure, Result.andThen_ok, hfill, Go.newRow, run_newObj]
                · have hsz : cs'.size = len * n := by
                    have h3 : cells.length = (zeroRow z.cellsOf (len * n)).length := by
                      obtain ⟨b1, b2⟩ := zeroRow_ok (ρ := ρ) (R := Rs ρ st.heap Res) (T := T) (w := w) (zs := z.cellsOf) (zc := zv.cells) a1 a2 (len * n) (len * n) (Nat.le_refl _) (fun h => by
                        rw [hc.2]
                        apply Nat.pos_of_ne_zero
                        intro e; rw [e] at h; omega)
                      obtain ⟨b3, b4⟩ := zeroRow_fit (ρ := ρ) (R := Rs ρ st.heap Res) (T := T) (w := w) (zs := z.cellsOf) (zc := zv.cells) a1 a2 (len * n) (fun h => by
                        rw [hc.2]
                        apply Nat.pos_of_ne_zero
                        intro e; rw [e] at h; omega)
                      obtain ⟨cs'', c1, c2, c3, c4⟩ := afill_ok (place' := fun i => some (i * n, n)) (fun i p hp => hp) hf hp b3 b4
                      exact c3
                    rw [hcs, h3]; simp [zeroRow]
                  refine .sl _ b _ _ 0 _ _ w.heap.size _ elem (len * n) (bind2_same ..) (Nat.le_refl _) (fun _ => rfl) ?_ (by omega)
                  simp [World.shape?, hsz]
    | _ => cases h

end Go.Ax
