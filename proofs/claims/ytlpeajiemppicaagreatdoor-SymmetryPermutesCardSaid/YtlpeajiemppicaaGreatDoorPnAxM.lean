/- How the abstract and the concrete state move together: one block is laid, written or grown; blocks are dropped. -/
import Derived.Test.YtlpeajiemppicaaGreatDoorPnAxR
namespace Go.Ax
set_option linter.unusedVariables false
set_option linter.unusedSimpArgs false

theorem BlkOk.bound {ρ : Loc} {R T : Nat → Prop} {w : World} {k : ABlk} (h : BlkOk ρ R T w k) : ∃ v g, ρ k.inc v = some g := by
  cases k with
  | row inc cur low data cells => obtain ⟨⟨g, hg⟩, _⟩ := h; exact ⟨_, g, hg⟩
  | map inc es => obtain ⟨g, hg, _⟩ := h; exact ⟨_, g, hg⟩
  | iter inc s pos => obtain ⟨g, hg, _⟩ := h; exact ⟨_, g, hg⟩
  | loop => obtain ⟨g, hg, _⟩ := h; exact ⟨_, g, hg⟩

/-- A block's facts carry over where its own blocks lie as they lay. -/
theorem BlkOk.carry {ρ ρ' : Loc} {R T R' T' : Nat → Prop} {w w' : World} {k : ABlk} (h : BlkOk ρ R T w k)
    (hext : ∀ i v g, ρ i v = some g → ρ' i v = some g) (hk : ∀ v g, ρ' k.inc v = some g → ρ k.inc v = some g)
    (hu : ∀ v g, ρ k.inc v = some g → w'.heap[g]? = w.heap[g]?) (hfit : ∀ x v, Fit ρ R T w x v → Fit ρ' R' T' w' x v) : BlkOk ρ' R' T' w' k := by
  cases k with
  | row inc cur low data cells =>
    obtain ⟨⟨g, hg⟩, hl, h0, h⟩ := h
    refine ⟨⟨g, hext _ _ _ hg⟩, hl, fun e v g hv => h0 e v g (hk v g hv), fun v g hv => ?_⟩
    obtain ⟨c, e, hc, hcells⟩ := h v g (hk v g hv)
    refine ⟨c, e, (hu v g (hk v g hv)).trans hc, fun j hj hm => ?_⟩
    obtain ⟨x, hx, hf⟩ := hcells j hj hm
    exact ⟨x, hx, hfit _ _ hf⟩
  | map inc es =>
    obtain ⟨g, hg, hv, entries, clock, hm, hs, he⟩ := h
    exact ⟨g, hext _ _ _ hg, fun v g' hv' => hv v g' (hk v g' hv'), entries, clock, (hu _ g hg).trans hm, hs, fun j hj hj' => ⟨hfit _ _ (he j hj hj').1, hfit _ _ (he j hj hj').2⟩⟩
  | iter inc s pos =>
    obtain ⟨g, hg, hv, b, hm, hs⟩ := h
    exact ⟨g, hext _ _ _ hg, fun v g' hv' => hv v g' (hk v g' hv'), b, (hu _ g hg).trans hm, hs⟩
  | loop inc state pending fn base nt env params assign body =>
    obtain ⟨g, hg, hv, tmps, defers, fn', hm, hs, he⟩ := h
    exact ⟨g, hext _ _ _ hg, fun v g' hv' => hv v g' (hk v g' hv'), tmps, defers, fn', (hu _ g hg).trans hm, hs, fun k v hk => hfit _ _ (he k v hk)⟩

/-- One block is laid, written or grown: the others lie as they lay. -/
theorem good_stepW {ρ ρ' : Loc} {Res T : Nat → Prop} {st st' : St} {w w' : World} (h : Good ρ Res T st w) (b : Id) (blk' : ABlk)
    (hsz : w.heap.size ≤ w'.heap.size) (hos : w'.os = w.os) (htape : w'.tape = w.tape) (hout : w'.output = w.output)
    (hext : ∀ i v g, ρ i v = some g → ρ' i v = some g)
    (hnew : ∀ i v g, ρ' i v = some g → ρ i v = some g ∨ (i = blk'.inc ∧ ((∃ v', ρ i v' = some g) ∨ (w.heap.size ≤ g ∧ g < w'.heap.size))))
    (hfr : ∀ g, g < w.heap.size → (∀ v, ρ blk'.inc v ≠ some g) → w'.heap[g]? = w.heap[g]?)
    (hshape : ∀ g x, w.shape? g = some x → w'.shape? g = some x)
    (hheap : st'.heap = upI b blk' st.heap) (hb : (∀ v, ρ blk'.inc v = none) ∨ ∃ blk, lkI b st.heap = some blk ∧ blk.inc = blk'.inc)
    (hclock : st.clock ≤ st'.clock) (hfresh : ∀ i v, st'.clock ≤ i ∨ st'.clock ≤ v → ρ' i v = none) :
    EvW ρ ρ' st st' w w' ∧ (BlkOk ρ' (Rs ρ' st'.heap Res) T w' blk' → Good ρ' Res T st' w') := by
  have hown : ∀ g, Own ρ' st'.heap g → Own ρ st.heap g ∨ (w.heap.size ≤ g ∧ g < w'.heap.size) := by
    rintro g ⟨b', k, v, hk, hr⟩
    rw [hheap, lkI_upI] at hk
    by_cases e : b = b'
    · subst e
      simp only [if_true, Option.some.injEq] at hk
      subst hk
      rcases hnew _ _ _ hr with h1 | ⟨_, h1 | h1⟩
      · rcases hb with hb | ⟨blk, hl, hi⟩
        · rw [hb] at h1; cases h1
        · exact .inl ⟨b, blk, v, hl, by rw [hi]; exact h1⟩
      · obtain ⟨v', h1⟩ := h1
        rcases hb with hb | ⟨blk, hl, hi⟩
        · rw [hb] at h1; cases h1
        · exact .inl ⟨b, blk, v', hl, by rw [hi]; exact h1⟩
      · exact .inr h1
    · simp only [e, if_false] at hk
      rcases hnew _ _ _ hr with h1 | ⟨hi, h1 | h1⟩
      · exact .inl ⟨b', k, v, hk, h1⟩
      · obtain ⟨v', h1⟩ := h1
        exact .inl ⟨b', k, v', hk, h1⟩
      · exact .inr h1
  have ev : EvW ρ ρ' st st' w w' :=
    { ext := hext
      new := fun g hg => (hown g hg).imp id (·.1)
      frame := fun g hg hn => hfr g hg (fun v hv => by
        rcases hb with hb | ⟨blk, hl, hi⟩
        · rw [hb] at hv; cases hv
        · exact hn ⟨b, blk, v, hl, by rw [hi]; exact hv⟩)
      size := hsz
      shape := hshape
      os := hos
      tape := htape
      output := hout
      clock := hclock }
  refine ⟨ev, fun hblk => ?_⟩
  have hinj : ∀ i v i' v' g, ρ' i v = some g → ρ' i' v' = some g → i = i' := by
    intro i v i' v' g h1 h2
    rcases hnew _ _ _ h1 with h1 | ⟨e1, ⟨u1, h1⟩ | h1⟩ <;> rcases hnew _ _ _ h2 with h2 | ⟨e2, ⟨u2, h2⟩ | h2⟩
    · exact h.inj _ _ _ _ _ h1 h2
    · exact h.inj _ _ _ _ _ h1 h2
    · have := h.lt _ _ _ h1; omega
    · exact h.inj _ _ _ _ _ h1 h2
    · exact h.inj _ _ _ _ _ h1 h2
    · have := h.lt _ _ _ h1; omega
    · have := h.lt _ _ _ h2; omega
    · have := h.lt _ _ _ h2; omega
    · rw [e1, e2]
  refine ⟨hinj, ?_, hfresh, ?_, ?_, ?_, ?_, ?_⟩
  · intro i v g hg
    rcases hnew _ _ _ hg with h1 | ⟨_, ⟨u1, h1⟩ | h1⟩
    · exact Nat.lt_of_lt_of_le (h.lt _ _ _ h1) hsz
    · exact Nat.lt_of_lt_of_le (h.lt _ _ _ h1) hsz
    · exact h1.2
  · intro b1 b2 k1 k2 h1 h2 he
    rw [hheap, lkI_upI] at h1 h2
    have key : ∀ b' k, b ≠ b' → lkI b' st.heap = some k → k.inc = blk'.inc → False := by
      intro b' k hne hk hi
      obtain ⟨v, g, hv⟩ := (h.blk _ _ hk).bound
      rcases hb with hb | ⟨blk, hl, hi'⟩
      · rw [hi, hb] at hv; cases hv
      · exact hne (h.ids _ _ _ _ hl hk (by rw [hi', hi]))
    by_cases e1 : b = b1 <;> by_cases e2 : b = b2
    · rw [← e1, ← e2]
    · simp only [e1, e2, if_true, if_false, Option.some.injEq] at h1 h2
      rw [if_neg (by rw [← e1]; exact e2)] at h2
      subst h1
      exact (key b2 k2 e2 h2 he.symm).elim
    · simp only [e2, if_true, Option.some.injEq] at h2
      rw [if_neg e1] at h1
      subst h2
      exact (key b1 k1 e1 h1 he).elim
    · rw [if_neg e1] at h1; rw [if_neg e2] at h2
      exact h.ids _ _ _ _ h1 h2 he
  · intro b' k hk
    rw [hheap, lkI_upI] at hk
    by_cases e : b = b'
    · simp only [e, if_true, Option.some.injEq] at hk
      subst hk; exact hblk
    · rw [if_neg e] at hk
      have hne : k.inc ≠ blk'.inc := by
        intro hi
        obtain ⟨v, g, hv⟩ := (h.blk _ _ hk).bound
        rcases hb with hb | ⟨blk, hl, hi'⟩
        · rw [hi, hb] at hv; cases hv
        · exact e (h.ids _ _ _ _ hl hk (by rw [hi', hi]))
      refine (h.blk _ _ hk).carry hext (fun v g hv => ?_) (fun v g hv => ?_) (fun x v hf => hf.evw ev h.res)
      · rcases hnew _ _ _ hv with h1 | ⟨e1, _⟩
        · exact h1
        · exact absurd e1 hne
      · exact hfr g (h.lt _ _ _ hv) (fun u hu => hne (h.inj _ _ _ _ _ hv hu))
  · intro g hg
    rcases hown g hg with h1 | h1
    · exact h.sep g h1
    · exact ⟨fun hr => by have := h.res g hr; omega, fun ht => by have := h.tnt g ht; omega⟩
  · exact fun g hg => Nat.lt_of_lt_of_le (h.res g hg) hsz
  · exact fun g hg => Nat.lt_of_lt_of_le (h.tnt g hg) hsz

/-- .. where what is laid is new. -/
theorem good_step {ρ ρ' : Loc} {Res T : Nat → Prop} {st st' : St} {w w' : World} (h : Good ρ Res T st w) (b : Id) (blk' : ABlk)
    (hsz : w.heap.size ≤ w'.heap.size) (hos : w'.os = w.os) (htape : w'.tape = w.tape) (hout : w'.output = w.output)
    (hext : ∀ i v g, ρ i v = some g → ρ' i v = some g)
    (hnew : ∀ i v g, ρ' i v = some g → ρ i v = some g ∨ (i = blk'.inc ∧ ((∃ v', ρ i v' = some g) ∨ (w.heap.size ≤ g ∧ g < w'.heap.size))))
    (hfr : ∀ g, g < w.heap.size → (∀ v, ρ blk'.inc v ≠ some g) → w'.heap[g]? = w.heap[g]?)
    (hshape : ∀ g x, w.shape? g = some x → w'.shape? g = some x)
    (hheap : st'.heap = upI b blk' st.heap) (hb : (∀ v, ρ blk'.inc v = none) ∨ ∃ blk, lkI b st.heap = some blk ∧ blk.inc = blk'.inc)
    (hclock : st.clock ≤ st'.clock) (hfresh : ∀ i v, st'.clock ≤ i ∨ st'.clock ≤ v → ρ' i v = none)
    (hge : (∀ v, ρ blk'.inc v = none) → st.clock ≤ blk'.inc) :
    Ev ρ ρ' st st' w w' ∧ (BlkOk ρ' (Rs ρ' st'.heap Res) T w' blk' → Good ρ' Res T st' w') := by
  obtain ⟨h1, h2⟩ := good_stepW h b blk' hsz hos htape hout hext hnew hfr hshape hheap hb hclock hfresh
  refine ⟨⟨h1, fun i hi hn v => ?_⟩, h2⟩
  cases hr : ρ' i v with
  | none => rfl
  | some g =>
    exfalso
    rcases hnew i v g hr with h3 | ⟨rfl, _⟩
    · rw [hn] at h3; cases h3
    · exact absurd (hge hn) (by omega)

/-- Blocks are dropped. -/
theorem good_drop {ρ : Loc} {Res T : Nat → Prop} {st st' : St} {w : World} (h : Good ρ Res T st w)
    (hheap : ∀ b k, lkI b st'.heap = some k → lkI b st.heap = some k) (hclock : st.clock ≤ st'.clock) : Ev ρ ρ st st' w w ∧ Good ρ Res T st' w := by
  have hown : ∀ g, Own ρ st'.heap g → Own ρ st.heap g := fun g ⟨b, k, v, hk, hr⟩ => ⟨b, k, v, hheap _ _ hk, hr⟩
  have ev : Ev ρ ρ st st' w w :=
    ⟨⟨fun _ _ _ h => h, fun g hg => .inl (hown g hg), fun _ _ _ => rfl, Nat.le_refl _, fun _ _ h => h, rfl, rfl, rfl, hclock⟩, fun _ _ h => h⟩
  refine ⟨ev, h.inj, h.lt, fun i v hiv => h.fresh i v (by omega), fun b b' k k' h1 h2 he => h.ids _ _ _ _ (hheap _ _ h1) (hheap _ _ h2) he, fun b k hk => ?_, fun g hg => h.sep g (hown g hg), h.res, h.tnt⟩
  exact (h.blk _ _ (hheap _ _ hk)).carry (fun _ _ _ h => h) (fun _ _ h => h) (fun _ _ _ => rfl) (fun x v hf => hf.ev ev h.res)

/-- Nothing has turned but the count of draws. -/
theorem fit_drawn {ρ : Loc} {R T : Nat → Prop} {w w' : World} (hh : w'.heap = w.heap) {x : AVal} {v : Value} (h : Fit ρ R T w x v) : Fit ρ R T w' x v :=
  h.mono (fun _ _ _ h => h) (fun g y hy => by unfold World.shape? at *; rw [hh]; exact hy) (fun _ _ _ h => h) (fun a _ _ u hu => by unfold World.cell? at *; rw [hh]; exact hu)

theorem good_drawn {ρ : Loc} {Res T : Nat → Prop} {st : St} {w w' : World} (h : Good ρ Res T st w) (hh : w'.heap = w.heap) (hos : w'.os = w.os) (htape : w'.tape = w.tape) (hout : w'.output = w.output) :
    Ev ρ ρ st st w w' ∧ Good ρ Res T st w' := by
  refine ⟨⟨⟨fun _ _ _ h => h, fun g hg => .inl hg, fun g _ _ => by rw [hh], by rw [hh]; exact Nat.le_refl _, fun g x hx => by unfold World.shape? at *; rw [hh]; exact hx, hos, htape, hout, Nat.le_refl _⟩, fun _ _ h => h⟩,
    h.inj, fun i v g hg => by rw [hh]; exact h.lt i v g hg, h.fresh, h.ids, fun b k hk => ?_, h.sep, fun g hg => by rw [hh]; exact h.res g hg, fun g hg => by rw [hh]; exact h.tnt g hg⟩
  exact (h.blk _ _ hk).carry (fun _ _ _ h => h) (fun _ _ h => h) (fun _ _ _ => by rw [hh]) (fun x v hf => fit_drawn hh hf)

def bind2 (ρ : Loc) (i v g : Nat) : Loc := fun i' v' => if i' = i ∧ v' = v then some g else ρ i' v'
theorem bind2_same (ρ : Loc) (i v g : Nat) : bind2 ρ i v g i v = some g := by simp [bind2]
theorem bind2_other {ρ : Loc} {i v g i' v' : Nat} (h : ¬ (i' = i ∧ v' = v)) : bind2 ρ i v g i' v' = ρ i' v' := by simp only [bind2, if_neg h]

theorem heap_push_old {w w' : World} {o : Obj} (hw : w'.heap = w.heap.push o) {g : Nat} (h : g < w.heap.size) : w'.heap[g]? = w.heap[g]? := by
  rw [hw, Array.getElem?_push_lt h, Array.getElem?_eq_getElem h]
theorem heap_push_new {w w' : World} {o : Obj} (hw : w'.heap = w.heap.push o) : w'.heap[w.heap.size]? = some o := by
  rw [hw]; simp

theorem shape_lt {w : World} {g : Nat} {x : TypeId × Nat} (h : w.shape? g = some x) : g < w.heap.size := by
  unfold World.shape? at h
  cases hg : w.heap[g]? with
  | none => rw [hg] at h; cases h
  | some o => exact (Array.getElem?_eq_some_iff.1 hg).1

theorem shape_of_heap {w w' : World} {g : Nat} (h : w'.heap[g]? = w.heap[g]?) : w'.shape? g = w.shape? g := by
  unfold World.shape?; rw [h]

/-- A new block is laid. -/
theorem good_new {ρ : Loc} {Res T : Nat → Prop} {st st' : St} {w w' : World} (h : Good ρ Res T st w) (b : Id) (blk : ABlk) (o : Obj)
    (hw : w'.heap = w.heap.push o) (hos : w'.os = w.os) (htape : w'.tape = w.tape) (hout : w'.output = w.output)
    (hinc : blk.inc = st.clock) (hclock : st'.clock = st.clock + 1) (hheap : st'.heap = upI b blk st.heap) :
    Ev ρ (bind2 ρ st.clock st.clock w.heap.size) st st' w w' ∧
      (BlkOk (bind2 ρ st.clock st.clock w.heap.size) (Rs (bind2 ρ st.clock st.clock w.heap.size) st'.heap Res) T w' blk → Good (bind2 ρ st.clock st.clock w.heap.size) Res T st' w') := by
  have hn : ∀ v, ρ st.clock v = none := fun v => h.fresh _ _ (.inl (Nat.le_refl _))
  have hs : w'.heap.size = w.heap.size + 1 := by rw [hw]; simp
  refine good_step h b blk (by omega) hos htape hout ?_ ?_ ?_ ?_ hheap (.inl (fun v => by rw [hinc]; exact hn v)) (by omega) ?_ (fun _ => by rw [hinc]; exact Nat.le_refl _)
  · intro i v g hg
    rw [bind2_other]; exact hg
    rintro ⟨rfl, _⟩; rw [hn] at hg; cases hg
  · intro i v g hg
    by_cases e : i = st.clock ∧ v = st.clock
    · obtain ⟨rfl, rfl⟩ := e
      rw [bind2_same] at hg; cases hg
      exact .inr ⟨hinc.symm, .inr ⟨Nat.le_refl _, by omega⟩⟩
    · rw [bind2_other e] at hg; exact .inl hg
  · intro g hg _; exact heap_push_old hw hg
  · intro g x hx; rw [shape_of_heap (heap_push_old hw (shape_lt hx))]; exact hx
  · intro i v hiv
    rw [bind2_other (by omega)]; exact h.fresh i v (by omega)

/-- A new row. -/
theorem good_new_row {ρ : Loc} {Res T : Nat → Prop} {st : St} {w w' : World} (h : Good ρ Res T st w) (b : Id) (data : Bool) (cells : List AVal) (c : Array Value) (e : TypeId)
    (hw : w'.heap = w.heap.push (.cells c e (0, 0))) (hos : w'.os = w.os) (htape : w'.tape = w.tape) (hout : w'.output = w.output)
    (hc : ∀ j (hj : j < cells.length), ∃ v, c[j]? = some v ∧ Fit ρ (Rs ρ st.heap Res) T w cells[j] v) :
    Ev ρ (bind2 ρ st.clock st.clock w.heap.size) st (newRow b data cells st) w w' ∧ Good (bind2 ρ st.clock st.clock w.heap.size) Res T (newRow b data cells st) w' := by
  obtain ⟨ev, good⟩ := good_new (st' := newRow b data cells st) h b (.row st.clock st.clock cells.length data cells) _ hw hos htape hout rfl rfl rfl
  have hone : ∀ v g, bind2 ρ st.clock st.clock w.heap.size st.clock v = some g → v = st.clock := fun v g hv => by
    by_cases e : st.clock = st.clock ∧ v = st.clock
    · exact e.2
    · rw [bind2_other e, h.fresh _ _ (.inl (Nat.le_refl _))] at hv; cases hv
  refine ⟨ev, good ⟨⟨_, bind2_same ..⟩, Nat.le_refl _, fun _ => hone, fun v g hv => ?_⟩⟩
  have hg : g = w.heap.size := by
    by_cases e : st.clock = st.clock ∧ v = st.clock
    · rw [e.2, bind2_same] at hv; cases hv; rfl
    · rw [bind2_other e, h.fresh _ _ (.inl (Nat.le_refl _))] at hv; cases hv
  subst hg
  refine ⟨c, e, heap_push_new hw, fun j hj _ => ?_⟩
  obtain ⟨x, hx, hf⟩ := hc j hj
  exact ⟨x, hx, hf.ev ev h.res⟩

end Go.Ax
