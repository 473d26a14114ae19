/- Rows: written, grown in place, grown into a new block; how a row is read. -/
import Derived.Test.YtlpeajiemppicaaGreatDoorPnAxM
import Derived.Laws.CopyRow
namespace Go.Ax
set_option linter.unusedVariables false
set_option linter.unusedSimpArgs false

theorem splice_get {α : Type} (l vs : List α) (p : Nat) (hp : p + vs.length ≤ l.length) (j : Nat) :
    (l.take p ++ vs ++ l.drop (p + vs.length))[j]? = if j < p then l[j]? else if j < p + vs.length then vs[j - p]? else l[j]? := by
  have h1 : (l.take p).length = p := by simp; omega
  by_cases c1 : j < p
  · rw [if_pos c1, List.append_assoc, List.getElem?_append_left (by omega), List.getElem?_take_of_lt c1]
  · rw [if_neg c1, List.append_assoc, List.getElem?_append_right (by omega), h1]
    by_cases c2 : j < p + vs.length
    · rw [if_pos c2, List.getElem?_append_left (by omega)]
    · rw [if_neg c2, List.getElem?_append_right (by omega), List.getElem?_drop]
      congr 1; omega

theorem setAt_length (cells vs : List AVal) (p : Nat) (hp : p + vs.length ≤ cells.length) : (setAt cells p vs).length = cells.length := by
  simp [setAt]; omega

theorem setAt_get (cells vs : List AVal) (p : Nat) (hp : p + vs.length ≤ cells.length) (j : Nat) :
    (setAt cells p vs)[j]? = if j < p then cells[j]? else if j < p + vs.length then vs[j - p]? else cells[j]? := splice_get cells vs p hp j

theorem getElem_of_some {α : Type} {l : List α} {j : Nat} (h : j < l.length) {x : α} (e : l[j]? = some x) : l[j] = x := by
  rw [List.getElem?_eq_getElem h] at e; exact Option.some.inj e

theorem shape_setRow {w : World} {g : Nat} {c c' : Array Value} {e : TypeId} {fr : Nat × Nat} (hg : w.heap[g]? = some (.cells c e fr)) (hs : c'.size = c.size) {k : Nat} {x : TypeId × Nat} (h : w.shape? k = some x) : (w.setRow g c').shape? k = some x := by
  by_cases e' : k = g
  · subst e'
    unfold World.shape? at *
    rw [setRow_heap w k c c' e fr hg]; rw [hg] at h; simp only [hs]; exact h
  · rw [shape_of_heap (setRow_other w g k c' e')]; exact h

/-- Cells of an owned row are written, by its newest version. -/
theorem good_put {ρ : Loc} {Res T : Nat → Prop} {st st' : St} {w : World} (h : Good ρ Res T st w) {b : Id} {inc ver off : Nat} {vs : List AVal}
    (hp : putCells b inc ver off vs st = some st') {g : Nat} (hg : ρ inc ver = some g) {xs : List Value} (hxs : FitL ρ (Rs ρ st.heap Res) T w vs xs) :
    ∃ c e, w.heap[g]? = some (.cells c e (0, 0)) ∧ off + xs.length ≤ c.size ∧
      Ev ρ ρ st st' w (w.setRow g (c.toList.take off ++ xs ++ c.toList.drop (off + xs.length)).toArray) ∧ Good ρ Res T st' (w.setRow g (c.toList.take off ++ xs ++ c.toList.drop (off + xs.length)).toArray) := by
  unfold putCells at hp
  cases hl : lkI b st.heap with
  | none => rw [hl] at hp; cases hp
  | some blk =>
    rw [hl] at hp
    cases blk with
    | map => cases hp
    | iter => cases hp
    | loop => cases hp
    | row inc' cur low data cells =>
      simp only at hp
      cases hc : (inc' == inc && ver == cur && Nat.ble (off + vs.length) cells.length) with
      | false => rw [hc] at hp; cases hp
      | true =>
        rw [hc, cond_true] at hp
        simp only [Bool.and_eq_true, beq_iff_eq, Nat.ble_eq] at hc
        obtain ⟨⟨rfl, rfl⟩, hle⟩ := hc
        obtain ⟨_, hlow, hone, hrows⟩ := h.blk b _ hl
        obtain ⟨c, e, hgc, hcells⟩ := hrows _ _ hg
        simp only [if_true] at hcells
        have hlen : cells.length ≤ c.size := by
          rcases Nat.eq_zero_or_pos cells.length with h0 | h0
          · omega
          · obtain ⟨v, hv, _⟩ := hcells (cells.length - 1) (by omega) (by omega)
            have := (Array.getElem?_eq_some_iff.1 hv).1; omega
        have hx : off + xs.length ≤ c.size := by rw [hxs.1]; omega
        have hcs : (c.toList.take off ++ xs ++ c.toList.drop (off + xs.length)).toArray.size = c.size := by simp; omega
        refine ⟨c, e, hgc, hx, ?_⟩
        have hst : st' = { st with heap := upI b (.row inc' ver (cond (ver == inc') low (Nat.min low off)) data (setAt cells off vs)) st.heap } := (Option.some.inj hp).symm
        subst hst
        generalize hw' : w.setRow g (c.toList.take off ++ xs ++ c.toList.drop (off + xs.length)).toArray = w'
        have hh : ∀ k, k ≠ g → w'.heap[k]? = w.heap[k]? := fun k hk => by rw [← hw']; exact setRow_other w g k _ hk
        have hgw : w'.heap[g]? = some (.cells (c.toList.take off ++ xs ++ c.toList.drop (off + xs.length)).toArray e (0, 0)) := by rw [← hw']; exact setRow_heap w g c _ e (0, 0) hgc
        obtain ⟨ev, good⟩ := good_step (ρ' := ρ) (st' := { st with heap := upI b (.row inc' ver (cond (ver == inc') low (Nat.min low off)) data (setAt cells off vs)) st.heap }) (w' := w') h b
          (.row inc' ver (cond (ver == inc') low (Nat.min low off)) data (setAt cells off vs)) (by rw [← hw']; simp) (by rw [← hw']; rfl) (by rw [← hw']; rfl) (by rw [← hw']; rfl) (fun _ _ _ h => h) (fun _ _ _ h => .inl h)
          (fun k hk hn => hh k (fun e => hn ver (by rw [e]; exact hg))) (fun k x hx => by rw [← hw']; exact shape_setRow hgc hcs hx) rfl (.inr ⟨_, hl, rfl⟩) (Nat.le_refl _) h.fresh (fun hnn => absurd (hg.symm.trans (hnn ver)) (by intro e; cases e))
        refine ⟨ev, good ⟨⟨g, hg⟩, ?_, hone, fun u k hk => ?_⟩⟩
        · rw [setAt_length _ _ _ hle]
          cases (ver == inc')
          · exact Nat.le_trans (Nat.min_le_left _ _) hlow
          · exact hlow
        · have hlowu : u ≠ ver → (cond (ver == inc') low (Nat.min low off)) = Nat.min low off := by
            intro hu
            cases hvi : (ver == inc') with
            | false => rfl
            | true =>
              have hvi' : ver = inc' := by simpa using hvi
              exact absurd ((hone hvi' u k hk).trans hvi'.symm) hu
          obtain ⟨c1, e1, hgc1, hcells1⟩ := hrows _ _ hk
          by_cases hkg : k = g
          · subst hkg
            rw [hgc] at hgc1
            cases hgc1
            refine ⟨_, e, hgw, fun j hj hm => ?_⟩
            rw [setAt_length _ _ _ hle] at hj
            have hcj : (c.toList.take off ++ xs ++ c.toList.drop (off + xs.length)).toArray[j]? = if j < off then c[j]? else if j < off + xs.length then xs[j - off]? else c[j]? := by
              have := splice_get c.toList xs off (by simpa using hx) j
              simpa using this
            have haj := setAt_get cells vs off hle j
            by_cases c1' : j < off
            · rw [if_pos c1'] at hcj haj
              obtain ⟨v, hv, hf⟩ := hcells j hj hj
              have : (setAt cells off vs)[j] = cells[j] := getElem_of_some _ (by rw [haj, List.getElem?_eq_getElem hj])
              exact ⟨v, by rw [hcj]; exact hv, by rw [this]; exact hf.ev ev h.res⟩
            · have hu : u = ver := by
                apply Classical.byContradiction
                intro hu
                rw [if_neg hu, hlowu hu] at hm
                have : Nat.min low off ≤ off := Nat.min_le_right _ _
                omega
              rw [if_neg c1'] at hcj haj
              by_cases c2 : j < off + vs.length
              · have hjv : j - off < vs.length := by omega
                rw [if_pos (by rw [hxs.1]; exact c2)] at hcj
                rw [if_pos c2] at haj
                have hf := hxs.2 (j - off) hjv
                have hxl : j - off < xs.length := by rw [hxs.1]; exact hjv
                have : (setAt cells off vs)[j] = vs[j - off] := getElem_of_some _ (by rw [haj, List.getElem?_eq_getElem hjv])
                refine ⟨xs[j - off], by rw [hcj, List.getElem?_eq_getElem hxl], ?_⟩
                rw [this]
                have hd : xs.getD (j - off) undef = xs[j - off] := by simp [List.getD, List.getElem?_eq_getElem hxl]
                rw [hd] at hf
                exact hf.ev ev h.res
              · rw [if_neg (by rw [hxs.1]; exact c2)] at hcj
                rw [if_neg c2] at haj
                obtain ⟨v, hv, hf⟩ := hcells j hj hj
                have : (setAt cells off vs)[j] = cells[j] := getElem_of_some _ (by rw [haj, List.getElem?_eq_getElem hj])
                exact ⟨v, by rw [hcj]; exact hv, by rw [this]; exact hf.ev ev h.res⟩
          · have hu : u ≠ ver := by rintro rfl; rw [hg] at hk; cases hk; exact hkg rfl
            refine ⟨c1, e1, (hh k hkg).trans hgc1, fun j hj hm => ?_⟩
            rw [if_neg hu, hlowu hu] at hm
            rw [setAt_length _ _ _ hle] at hj
            have h2 : j < off := Nat.lt_of_lt_of_le hm (Nat.min_le_right _ _)
            have h3 : j < low := Nat.lt_of_lt_of_le hm (Nat.min_le_left _ _)
            have haj := setAt_get cells vs off hle j
            rw [if_pos h2] at haj
            have : (setAt cells off vs)[j] = cells[j] := getElem_of_some _ (by rw [haj, List.getElem?_eq_getElem hj])
            obtain ⟨v, hv, hf⟩ := hcells1 j hj (by rw [if_neg hu]; exact h3)
            exact ⟨v, hv, by rw [this]; exact hf.ev ev h.res⟩

/-- A row is appended to, in place or in a new block: a new version. -/
theorem good_append {ρ : Loc} {Res T : Nat → Prop} {st : St} {w w' : World} (h : Good ρ Res T st w) {b : Id} {inc cur low : Nat} {data : Bool} {cells : List AVal}
    (hl : lkI b st.heap = some (.row inc cur low data cells)) (p : Nat) (hpl : p ≤ cells.length) (new : List AVal) (xs : List Value) (hxs : FitL ρ (Rs ρ st.heap Res) T w new xs) (gn : Nat)
    (hsz : w.heap.size ≤ w'.heap.size) (hos : w'.os = w.os) (htape : w'.tape = w.tape) (hout : w'.output = w.output)
    (hbnd : (∃ v', ρ inc v' = some gn) ∨ (w.heap.size ≤ gn ∧ gn < w'.heap.size)) (hfr : ∀ g, g < w.heap.size → g ≠ gn → w'.heap[g]? = w.heap[g]?)
    (hshape : ∀ g x, w.shape? g = some x → w'.shape? g = some x) (c' : Array Value) (e' : TypeId) (hc' : w'.heap[gn]? = some (.cells c' e' (0, 0)))
    (hpre : ∀ j (hj : j < cells.length), j < p → ∃ v, c'[j]? = some v ∧ Fit ρ (Rs ρ st.heap Res) T w cells[j] v) (hnew : ∀ j, j < xs.length → c'[p + j]? = xs[j]?)
    (hold : ∀ c e, w.heap[gn]? = some (.cells c e (0, 0)) → ∀ j, j < p → c'[j]? = c[j]?) :
    Ev ρ (bind2 ρ inc st.clock gn) st { st with clock := st.clock + 1, heap := upI b (.row inc st.clock (Nat.min low p) data (cells.take p ++ new)) st.heap } w w' ∧
      Good (bind2 ρ inc st.clock gn) Res T { st with clock := st.clock + 1, heap := upI b (.row inc st.clock (Nat.min low p) data (cells.take p ++ new)) st.heap } w' := by
  obtain ⟨⟨g0, hg0⟩, hlow, hone, hrows⟩ := h.blk b _ hl
  have hn : ∀ i, ρ i st.clock = none := fun i => h.fresh _ _ (.inr (Nat.le_refl _))
  have hinc : inc < st.clock := by
    rcases Nat.lt_or_ge inc st.clock with h1 | h1
    · exact h1
    · rw [h.fresh inc cur (.inl h1)] at hg0; cases hg0
  have hext : ∀ i v g, ρ i v = some g → bind2 ρ inc st.clock gn i v = some g := by
    intro i v g hg
    rw [bind2_other]; exact hg
    rintro ⟨rfl, rfl⟩; rw [hn] at hg; cases hg
  obtain ⟨ev, good⟩ := good_step (ρ' := bind2 ρ inc st.clock gn) (st' := { st with clock := st.clock + 1, heap := upI b (.row inc st.clock (Nat.min low p) data (cells.take p ++ new)) st.heap }) (w' := w') h b
    (.row inc st.clock (Nat.min low p) data (cells.take p ++ new)) hsz hos htape hout hext
    (fun i v g hg => by
      by_cases e : i = inc ∧ v = st.clock
      · obtain ⟨rfl, rfl⟩ := e
        rw [bind2_same] at hg; cases hg
        exact .inr ⟨rfl, hbnd⟩
      · rw [bind2_other e] at hg; exact .inl hg)
    (fun g hg hnv => hfr g hg (fun e => by
      rcases hbnd with ⟨v', hv'⟩ | hb
      · exact hnv v' (by rw [e]; exact hv')
      · omega)) hshape rfl (.inr ⟨_, hl, rfl⟩) (Nat.le_succ _)
    (fun i v hiv => by
      have hiv' : st.clock + 1 ≤ i ∨ st.clock + 1 ≤ v := hiv
      rw [bind2_other (by omega)]; exact h.fresh i v (by omega))
    (fun hnn => by
      obtain ⟨⟨g0, hg0⟩, _⟩ := h.blk _ _ hl
      exact absurd (hg0.symm.trans (hnn _)) (by intro e; cases e))
  have hpl' : (cells.take p).length = p := by simp; omega
  have hget : ∀ j (hj : j < (cells.take p ++ new).length), (hjp : j < p) → (cells.take p ++ new)[j] = cells[j] := fun j hj hjp => by
    rw [List.getElem_append_left (by omega), List.getElem_take]
  refine ⟨ev, good ⟨⟨gn, bind2_same ..⟩, ?_, fun e => by omega, fun u k hk => ?_⟩⟩
  · have : Nat.min low p ≤ p := Nat.min_le_right _ _
    simp only [List.length_append, hpl']; omega
  · by_cases hu : u = st.clock
    · subst hu
      rw [bind2_same] at hk; cases hk
      refine ⟨c', e', hc', fun j hj _ => ?_⟩
      by_cases hjp : j < p
      · obtain ⟨v, hv, hf⟩ := hpre j (by omega) hjp
        exact ⟨v, hv, by rw [hget j hj hjp]; exact hf.ev ev h.res⟩
      · have hjn : j - p < new.length := by simp only [List.length_append, hpl'] at hj; omega
        have hjx : j - p < xs.length := by rw [hxs.1]; exact hjn
        have h1 := hnew (j - p) hjx
        rw [show p + (j - p) = j by omega, List.getElem?_eq_getElem hjx] at h1
        have hf := hxs.2 (j - p) hjn
        have hd : xs.getD (j - p) undef = xs[j - p] := by simp [List.getD, List.getElem?_eq_getElem hjx]
        rw [hd] at hf
        refine ⟨_, h1, ?_⟩
        have : (cells.take p ++ new)[j] = new[j - p] := by
          rw [List.getElem_append_right (by omega)]; simp only [hpl']
        rw [this]; exact hf.ev ev h.res
    · rw [bind2_other (by omega)] at hk
      rw [if_neg hu]
      obtain ⟨c1, e1, hgc1, hcells1⟩ := hrows _ _ hk
      have hcell : ∀ j (hj : j < cells.length), j < Nat.min low p → ∃ v, c1[j]? = some v ∧ Fit ρ (Rs ρ st.heap Res) T w cells[j] v := fun j hj hm => by
        have h3 : j < low := Nat.lt_of_lt_of_le hm (Nat.min_le_left _ _)
        refine hcells1 j hj ?_
        by_cases huc : u = cur
        · rw [if_pos huc]; exact hj
        · rw [if_neg huc]; exact h3
      by_cases hkg : k = gn
      · subst hkg
        refine ⟨c', e', hc', fun j hj hm => ?_⟩
        have h2 : j < p := Nat.lt_of_lt_of_le hm (Nat.min_le_right _ _)
        obtain ⟨v, hv, hf⟩ := hcell j (by omega) hm
        exact ⟨v, by rw [hold _ _ hgc1 j h2]; exact hv, by rw [hget j hj h2]; exact hf.ev ev h.res⟩
      · refine ⟨c1, e1, (hfr k (h.lt _ _ _ hk) hkg).trans hgc1, fun j hj hm => ?_⟩
        have h2 : j < p := Nat.lt_of_lt_of_le hm (Nat.min_le_right _ _)
        obtain ⟨v, hv, hf⟩ := hcell j (by omega) hm
        exact ⟨v, hv, by rw [hget j hj h2]; exact hf.ev ev h.res⟩

/-- What is read out of an owned row. -/
theorem rowAt_ok {ρ : Loc} {Res T : Nat → Prop} {st : St} {w : World} (h : Good ρ Res T st w) {b : Id} {inc ver off n : Nat} {cs : List AVal}
    (hr : rowAt st.heap b inc ver off n = some cs) {g : Nat} (hg : ρ inc ver = some g) :
    cs.length = n ∧ ∃ c e, w.heap[g]? = some (.cells c e (0, 0)) ∧ ∀ j (hj : j < cs.length), ∃ v, c[off + j]? = some v ∧ Fit ρ (Rs ρ st.heap Res) T w cs[j] v := by
  unfold rowAt at hr
  cases hl : lkI b st.heap with
  | none => rw [hl] at hr; cases hr
  | some blk =>
    rw [hl] at hr
    cases blk with
    | map => cases hr
    | iter => cases hr
    | loop => cases hr
    | row inc' cur low data cells =>
      simp only at hr
      cases hc : (inc' == inc && cond (ver == cur) (Nat.ble (off + n) cells.length) (Nat.ble (off + n) low && Nat.ble (off + n) cells.length)) with
      | false => rw [hc] at hr; cases hr
      | true =>
        rw [hc, cond_true] at hr
        have hr' := Option.some.inj hr
        subst hr'
        simp only [Bool.and_eq_true, beq_iff_eq] at hc
        obtain ⟨rfl, hc⟩ := hc
        obtain ⟨_, hlow, hone, hrows⟩ := h.blk b _ hl
        obtain ⟨c, e, hgc, hcells⟩ := hrows _ _ hg
        have hle : off + n ≤ cells.length ∧ off + n ≤ (if ver = cur then cells.length else low) := by
          by_cases hv : ver = cur
          · have h1 : (ver == cur) = true := by simpa using hv
            rw [h1, cond_true, Nat.ble_eq] at hc
            rw [if_pos hv]; exact ⟨hc, hc⟩
          · have h1 : (ver == cur) = false := by simpa using hv
            rw [h1, cond_false, Bool.and_eq_true, Nat.ble_eq, Nat.ble_eq] at hc
            rw [if_neg hv]; exact ⟨hc.2, hc.1⟩
        have hlen : ((cells.drop off).take n).length = n := by simp; omega
        refine ⟨hlen, c, e, hgc, fun j hj => ?_⟩
        rw [hlen] at hj
        obtain ⟨v, hv, hf⟩ := hcells (off + j) (by omega) (by omega)
        refine ⟨v, hv, ?_⟩
        have : ((cells.drop off).take n)[j] = cells[off + j] := by rw [List.getElem_take, List.getElem_drop]
        rw [this]; exact hf

theorem cell_of_cells {w : World} {g : Nat} {c : Array Value} {e : TypeId} {fr : Nat × Nat} (h : w.heap[g]? = some (.cells c e fr)) (o : Nat) : w.cell? ⟨g, o, none⟩ = c[o]? := by
  simp [World.cell?, h]

theorem addr_add (g o j : Nat) : (⟨g, o, none⟩ : Addr).add j = ⟨g, o + j, none⟩ := by unfold Addr.add; split <;> simp_all

end Go.Ax
