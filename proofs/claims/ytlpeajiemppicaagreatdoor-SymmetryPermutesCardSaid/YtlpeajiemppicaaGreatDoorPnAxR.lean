/- The relation between abstract and concrete states, and how it moves. -/
import Derived.Test.YtlpeajiemppicaaGreatDoorPnAxC
import Derived.Laws.World
import Derived.Laws.Cells
import Derived.Below
namespace Go.Ax
set_option linter.unusedVariables false
set_option linter.unusedSimpArgs false

/-! ### finite maps -/
theorem lk_rep {α : Type} (k : Nat) (v : α) (j : Nat) : ∀ l : List (Nat × α), lk j (rep k v l) = if k = j ∧ has k l = true then some v else lk j l
  | [] => by simp [rep, lk, has]
  | p :: r => by
    simp only [rep, lk, has]
    by_cases h : p.1 = k
    · have h1 : (p.1 == k) = true := by simpa using h
      simp only [h1, cond_true, lk]
      by_cases hj : k = j
      · subst hj; simp
      · have : (k == j) = false := by simpa using hj
        have h2 : (p.1 == j) = false := by rw [h]; exact this
        simp [hj, this, h2]
    · have h1 : (p.1 == k) = false := by simpa using h
      simp only [h1, cond_false, lk, lk_rep k v j r]
      by_cases hj : p.1 = j
      · have h2 : (p.1 == j) = true := by simpa using hj
        have h3 : ¬ k = j := fun e => h (by rw [hj, e])
        simp [h2, h3]
      · have h2 : (p.1 == j) = false := by simpa using hj
        simp [h2]

theorem lk_of_has {α : Type} (k : Nat) : ∀ l : List (Nat × α), has k l = false → lk k l = none
  | [], _ => rfl
  | p :: r, h => by
    simp only [has] at h
    cases h1 : (p.1 == k) with
    | true => simp [h1] at h
    | false => simp only [h1, cond_false] at h; simp [lk, h1, lk_of_has k r h]

theorem lk_up {α : Type} (k j : Nat) (v : α) (l : List (Nat × α)) : lk j (up k v l) = if k = j then some v else lk j l := by
  unfold up
  cases h : has k l with
  | true => simp [h, lk_rep]
  | false =>
    simp only [cond_false, lk]
    by_cases hj : k = j
    · simp [hj]
    · have : (k == j) = false := by simpa using hj
      simp [this, hj]

theorem Id.eq_iff {a b : Id} : a.eq b = true ↔ a = b := by
  cases a <;> cases b <;> simp [Id.eq]
theorem Id.eq_self (a : Id) : a.eq a = true := Id.eq_iff.2 rfl
theorem Id.eq_ne {a b : Id} (h : a ≠ b) : a.eq b = false := by
  cases h' : a.eq b with
  | false => rfl
  | true => exact absurd (Id.eq_iff.1 h') h

theorem lkI_repI (k : Id) (v : ABlk) (j : Id) : ∀ l : Heap, lkI j (repI k v l) = if k = j ∧ hasI k l = true then some v else lkI j l
  | [] => by simp [repI, lkI, hasI]
  | p :: r => by
    simp only [repI, lkI, hasI]
    by_cases h : p.1 = k
    · subst h
      simp only [Id.eq_self, cond_true, lkI]
      by_cases hj : p.1 = j
      · simp [hj, Id.eq_self]
      · simp [hj, Id.eq_ne hj]
    · simp only [Id.eq_ne h, cond_false, lkI, lkI_repI k v j r]
      by_cases hj : p.1 = j
      · have h3 : ¬ k = j := fun e => h (by rw [hj, e])
        simp [hj, Id.eq_self, h3]
      · simp [Id.eq_ne hj]

theorem lkI_of_hasI (k : Id) : ∀ l : Heap, hasI k l = false → lkI k l = none
  | [], _ => rfl
  | p :: r, h => by
    simp only [hasI] at h
    cases h1 : (p.1.eq k) with
    | true => simp [h1] at h
    | false => simp only [h1, cond_false] at h; simp [lkI, h1, lkI_of_hasI k r h]

theorem lkI_upI (k j : Id) (v : ABlk) (l : Heap) : lkI j (upI k v l) = if k = j then some v else lkI j l := by
  unfold upI
  cases h : hasI k l with
  | true => simp [h, lkI_repI]
  | false =>
    simp only [cond_false, lkI]
    by_cases hj : k = j
    · simp [hj, Id.eq_self]
    · simp [Id.eq_ne hj, hj]

theorem lkI_erI (k j : Id) : ∀ l : Heap, lkI j (erI k l) = if k = j then none else lkI j l
  | [] => by simp [erI, lkI]
  | p :: r => by
    simp only [erI]
    by_cases h : p.1 = k
    · subst h
      simp only [Id.eq_self, cond_true, lkI, lkI_erI p.1 j r]
      by_cases hj : p.1 = j
      · simp [hj]
      · simp [hj, Id.eq_ne hj]
    · simp only [Id.eq_ne h, cond_false, lkI, lkI_erI k j r]
      by_cases hj : p.1 = j
      · have h3 : ¬ k = j := fun e => h (by rw [hj, e])
        simp [hj, Id.eq_self, h3]
      · simp [Id.eq_ne hj]

theorem lkI_kill (j : Id) : ∀ (ids : List Id) (l : Heap), lkI j (kill ids l) = if j ∈ ids then none else lkI j l
  | [], l => by simp [kill]
  | b :: r, l => by
    simp only [kill, lkI_kill j r, lkI_erI, List.mem_cons]
    by_cases h : j ∈ r
    · simp [h]
    · by_cases h2 : j = b
      · subst h2; simp
      · have h3 : ¬ b = j := fun e => h2 e.symm
        simp [h, h2, h3]

/-- Whatever a drop leaves was there. -/
theorem lkI_dropV (base : Nat) (j : Id) : ∀ l : Heap, lkI j (dropV base l) = none ∨ lkI j (dropV base l) = lkI j l
  | [] => .inl rfl
  | p :: r => by
    have ih := lkI_dropV base j r
    obtain ⟨i, k⟩ := p
    cases i with
    | v n =>
      simp only [dropV]
      cases hb : Nat.ble base n with
      | true =>
        simp only [cond_true, lkI]
        by_cases hj : Id.v n = j
        · left
          have : ∀ l : Heap, lkI (.v n) (dropV base l) = none := by
            intro l
            induction l with
            | nil => rfl
            | cons q l ih =>
              obtain ⟨i, k'⟩ := q
              cases i with
              | v m =>
                simp only [dropV]
                cases hm : Nat.ble base m with
                | true => simpa using ih
                | false =>
                  have : (Id.v m).eq (.v n) = false := Id.eq_ne (by intro e; injection e with e; subst e; rw [hb] at hm; cases hm)
                  simp [lkI, this, ih]
              | r m => simp [dropV, lkI, Id.eq, ih]
          rw [← hj]; exact this r
        · simp only [Id.eq_ne hj, cond_false]; exact ih
      | false =>
        simp only [cond_false, lkI]
        by_cases hj : Id.v n = j
        · right; simp [hj, Id.eq_self]
        · simp only [Id.eq_ne hj, cond_false]; exact ih
    | r n =>
      simp only [dropV, lkI]
      by_cases hj : Id.r n = j
      · right; simp [hj, Id.eq_self]
      · simp only [Id.eq_ne hj, cond_false]; exact ih

/-! ### the relation -/
abbrev Loc := Nat → Nat → Option Nat

/-- A block that no owned slice may share. -/
def Free (R T : Nat → Prop) (tn : Bool) (g : Nat) : Prop := ¬ R g ∧ (tn = false → ¬ T g)

inductive Fit (ρ : Loc) (R T : Nat → Prop) (w : World) : AVal → Value → Prop
  | bool (b : Bool) : Fit ρ R T w (.bool b) (.bool b)
  | int (k : IntKind) (n : Int) : Fit ρ R T w (.int k n) (.int k n)
  | str (s : ByteArray) : Fit ρ R T w (.str (s.data.toList.map UInt8.toNat)) (.string s)
  | nilptr : Fit ρ R T w .nilptr (.pointer none)
  | nilfunc : Fit ρ R T w .nilfunc .nilFunc
  | nilif : Fit ρ R T w .nilif .nilIface
  | nilmap : Fit ρ R T w .nilmap (.map none)
  | fsl (tn cx : Bool) (len : Nat) (cells : List AVal) (A : Option Addr) (cap : Nat) (vs : Nat → Value) (h1 : len ≤ cap) (h2 : cx = true → cap = len)
      (h3 : 0 < len → ∃ a, A = some a) (h4 : ∀ j, j < cells.length → ∃ a, A = some a ∧ Free R T tn a.block ∧ w.cell? (a.add j) = some (vs j))
      (h5 : ∀ j (h : j < cells.length), Fit ρ R T w cells[j] (vs j)) (h6 : allPure cells = true) : Fit ρ R T w (.fsl tn cx len cells) (.slice A len cap)
  | sl (cx : Bool) (b : Id) (inc ver off len sz g cap : Nat) (e : TypeId) (n : Nat) (h1 : ρ inc ver = some g) (h2 : len ≤ cap) (h3 : cx = true → cap = len)
      (h4 : w.shape? g = some (e, n)) (h5 : off + cap * sz ≤ n) : Fit ρ R T w (.sl cx b inc ver off len sz) (.slice (some ⟨g, off, none⟩) len cap)
  | ptr (b : Id) (inc ver off g : Nat) (h1 : ρ inc ver = some g) : Fit ρ R T w (.ptr b inc ver off) (.pointer (some ⟨g, off, none⟩))
  | fptr (tn : Bool) (cells : List AVal) (a : Addr) (vs : Nat → Value) (h4 : ∀ j, j < cells.length → Free R T tn a.block ∧ w.cell? (a.add j) = some (vs j))
      (h5 : ∀ j (h : j < cells.length), Fit ρ R T w cells[j] (vs j)) (h6 : allPure cells = true) : Fit ρ R T w (.fptr tn cells) (.pointer (some a))
  | map (b : Id) (inc g : Nat) (h1 : ρ inc inc = some g) : Fit ρ R T w (.map b inc) (.map (some g))
  | iter (b : Id) (inc g : Nat) (h1 : ρ inc inc = some g) : Fit ρ R T w (.iter b inc) (.pointer (some ⟨g, 0, none⟩))
  | yld (b : Id) (inc g : Nat) (h1 : ρ inc inc = some g) : Fit ρ R T w (.yld b inc) (.func (.yield g) #[] #[])
  | func (fn : Fn) (fs cs : List AVal) (f c : Array Value) (h1 : f.size = fs.length) (h2 : c.size = cs.length)
      (h3 : ∀ j (h : j < fs.length), Fit ρ R T w fs[j] (f.getD j undef)) (h4 : ∀ j (h : j < cs.length), Fit ρ R T w cs[j] (c.getD j undef)) : Fit ρ R T w (.func fn fs cs) (.func fn f c)
  | iface (t : TypeId) (v : AVal) (x : Value) (h : Fit ρ R T w v x) : Fit ρ R T w (.iface t v) (.iface t x)
  | agg (cells : List AVal) (cs : Array Value) (h1 : cs.size = cells.length) (h2 : ∀ j (h : j < cells.length), Fit ρ R T w cells[j] (cs.getD j undef)) : Fit ρ R T w (.agg cells) (.agg cs)
  | tuple (vs : List AVal) (xs : Array Value) (h1 : xs.size = vs.length) (h2 : ∀ j (h : j < vs.length), Fit ρ R T w vs[j] (xs.getD j undef)) : Fit ρ R T w (.tuple vs) (.tuple xs)

theorem allPure_iff : ∀ {l : List AVal}, allPure l = true ↔ ∀ x ∈ l, x.pure = true
  | [] => by simp [allPure]
  | v :: r => by simp [allPure, allPure_iff (l := r)]
theorem allPure_drop {l : List AVal} (h : allPure l = true) (n : Nat) : allPure (l.drop n) = true :=
  allPure_iff.2 fun x hx => allPure_iff.1 h x (List.mem_of_mem_drop hx)
theorem allPure_take {l : List AVal} (h : allPure l = true) (n : Nat) : allPure (l.take n) = true :=
  allPure_iff.2 fun x hx => allPure_iff.1 h x (List.mem_of_mem_take hx)

def FitL (ρ : Loc) (R T : Nat → Prop) (w : World) (xs : List AVal) (vs : List Value) : Prop :=
  vs.length = xs.length ∧ ∀ j (h : j < xs.length), Fit ρ R T w xs[j] (vs.getD j undef)

def Own (ρ : Loc) (h : Heap) (g : Nat) : Prop := ∃ b k v, lkI b h = some k ∧ ρ k.inc v = some g

def Rs (ρ : Loc) (h : Heap) (Res : Nat → Prop) (g : Nat) : Prop := Own ρ h g ∨ Res g

def EnvOk (ρ : Loc) (R T : Nat → Prop) (w : World) (env : Env) (tmps : Array Value) : Prop :=
  ∀ k v, lk k env = some v → Fit ρ R T w v (tmps.getD k undef)

/-- A row's cells lie in block g, up to m. -/
def RowIn (ρ : Loc) (R T : Nat → Prop) (w : World) (g m : Nat) (cells : List AVal) : Prop :=
  ∃ (c : Array Value) (e : TypeId), w.heap[g]? = some (.cells c e (0, 0)) ∧
    ∀ j (h : j < cells.length), j < m → ∃ v, c[j]? = some v ∧ Fit ρ R T w cells[j] v

def BlkOk (ρ : Loc) (R T : Nat → Prop) (w : World) : ABlk → Prop
  | .row inc cur low _ cells => (∃ g, ρ inc cur = some g) ∧ low ≤ cells.length ∧ (cur = inc → ∀ v g, ρ inc v = some g → v = inc) ∧ ∀ v g, ρ inc v = some g → RowIn ρ R T w g (if v = cur then cells.length else low) cells
  | .map inc es => ∃ g, ρ inc inc = some g ∧ (∀ v g', ρ inc v = some g' → v = inc) ∧ ∃ (entries : Array MapEntry) (clock : Nat), w.heap[g]? = some (.map entries clock) ∧ entries.size = es.length ∧
      ∀ j (h : j < es.length) (h' : j < entries.size), Fit ρ R T w es[j].1 entries[j].key ∧ Fit ρ R T w es[j].2 entries[j].val
  | .iter inc s pos => ∃ g, ρ inc inc = some g ∧ (∀ v g', ρ inc v = some g' → v = inc) ∧ ∃ b : ByteArray, w.heap[g]? = some (.stringIter b pos) ∧ s = b.data.toList.map UInt8.toNat
  | .loop inc state pending fn base nt env params assign body => ∃ g, ρ inc inc = some g ∧ (∀ v g', ρ inc v = some g' → v = inc) ∧ ∃ (tmps : Array Value) (defers : Nat) (fn' : FuncId),
      w.heap[g]? = some (.loop { state, pending, fn := fn', tmps, params := params.toArray, assign, body, defers }) ∧ tmps.size = nt ∧ EnvOk ρ R T w env tmps

structure Good (ρ : Loc) (Res T : Nat → Prop) (st : St) (w : World) : Prop where
  inj : ∀ i v i' v' g, ρ i v = some g → ρ i' v' = some g → i = i'
  lt : ∀ i v g, ρ i v = some g → g < w.heap.size
  fresh : ∀ i v, st.clock ≤ i ∨ st.clock ≤ v → ρ i v = none
  ids : ∀ b b' k k', lkI b st.heap = some k → lkI b' st.heap = some k' → k.inc = k'.inc → b = b'
  blk : ∀ b k, lkI b st.heap = some k → BlkOk ρ (Rs ρ st.heap Res) T w k
  sep : ∀ g, Own ρ st.heap g → ¬ Res g ∧ ¬ T g
  res : ∀ g, Res g → g < w.heap.size
  tnt : ∀ g, T g → g < w.heap.size

/-- From one state to a later one. -/
structure EvW (ρ ρ' : Loc) (st st' : St) (w w' : World) : Prop where
  ext : ∀ i v g, ρ i v = some g → ρ' i v = some g
  new : ∀ g, Own ρ' st'.heap g → Own ρ st.heap g ∨ w.heap.size ≤ g
  frame : ∀ g, g < w.heap.size → ¬ Own ρ st.heap g → w'.heap[g]? = w.heap[g]?
  size : w.heap.size ≤ w'.heap.size
  shape : ∀ g x, w.shape? g = some x → w'.shape? g = some x
  os : w'.os = w.os
  tape : w'.tape = w.tape
  output : w'.output = w.output
  clock : st.clock ≤ st'.clock

/-- .. and nothing old that was free is taken. -/
structure Ev (ρ ρ' : Loc) (st st' : St) (w w' : World) : Prop extends EvW ρ ρ' st st' w w' where
  old : ∀ i, i < st.clock → (∀ v, ρ i v = none) → ∀ v, ρ' i v = none

theorem Ev.refl (ρ : Loc) (st : St) (w : World) : Ev ρ ρ st st w w :=
  ⟨⟨fun _ _ _ h => h, fun _ h => .inl h, fun _ _ _ => rfl, Nat.le_refl _, fun _ _ h => h, rfl, rfl, rfl, Nat.le_refl _⟩, fun _ _ h => h⟩

theorem own_lt {ρ : Loc} {Res T : Nat → Prop} {st : St} {w : World} (h : Good ρ Res T st w) {g : Nat} (ho : Own ρ st.heap g) : g < w.heap.size := by
  obtain ⟨b, k, v, _, hr⟩ := ho
  exact h.lt _ _ _ hr

theorem EvW.trans {ρ ρ' ρ'' : Loc} {st st' st'' : St} {w w' w'' : World} (h : EvW ρ ρ' st st' w w') (k : EvW ρ' ρ'' st' st'' w' w'') : EvW ρ ρ'' st st'' w w'' where
  ext := fun i v g hg => k.ext i v g (h.ext i v g hg)
  new := fun g hg => by
    rcases k.new g hg with h1 | h1
    · exact h.new g h1
    · exact .inr (Nat.le_trans h.size h1)
  frame := fun g hg hn => by
    have h1 := h.frame g hg hn
    have h2 : ¬ Own ρ' st'.heap g := fun ho => by
      rcases h.new g ho with h3 | h3
      · exact hn h3
      · omega
    rw [k.frame g (Nat.lt_of_lt_of_le hg h.size) h2, h1]
  size := Nat.le_trans h.size k.size
  shape := fun g x hx => k.shape g x (h.shape g x hx)
  os := k.os.trans h.os
  tape := k.tape.trans h.tape
  output := k.output.trans h.output
  clock := Nat.le_trans h.clock k.clock

theorem Ev.trans {ρ ρ' ρ'' : Loc} {st st' st'' : St} {w w' w'' : World} (h : Ev ρ ρ' st st' w w') (k : Ev ρ' ρ'' st' st'' w' w'') : Ev ρ ρ'' st st'' w w'' :=
  ⟨h.toEvW.trans k.toEvW, fun i hi hn => k.old i (Nat.lt_of_lt_of_le hi h.clock) (h.old i hi hn)⟩

theorem cell_lt {w : World} {a : Addr} {v : Value} (h : w.cell? a = some v) : a.block < w.heap.size := World.block_lt_of_cell? w a h

theorem add_block (a : Addr) (j : Nat) : (a.add j).block = a.block := by unfold Addr.add; split <;> rfl

theorem cell_of_heap {w w' : World} {a : Addr} (h : w'.heap[a.block]? = w.heap[a.block]?) : w'.cell? a = w.cell? a := by
  unfold World.cell?; rw [h]

/-- What has a value keeps it: whatever isn't owned stays. -/
theorem Fit.mono {ρ ρ' : Loc} {R T R' T' : Nat → Prop} {w w' : World} {x : AVal} {v : Value} (h : Fit ρ R T w x v)
    (hext : ∀ i v g, ρ i v = some g → ρ' i v = some g) (hshape : ∀ g y, w.shape? g = some y → w'.shape? g = some y)
    (hfree : ∀ tn g, g < w.heap.size → Free R T tn g → Free R' T' tn g) (hcell : ∀ a tn, Free R T tn a.block → ∀ u, w.cell? a = some u → w'.cell? a = some u) : Fit ρ' R' T' w' x v := by
  induction h with
  | bool b => exact .bool b
  | int k n => exact .int k n
  | str s => exact .str s
  | nilptr => exact .nilptr
  | nilfunc => exact .nilfunc
  | nilif => exact .nilif
  | nilmap => exact .nilmap
  | fsl tn cx len cells A cap vs h1 h2 h3 h4 h5 h6 ih =>
    refine .fsl tn cx len cells A cap vs h1 h2 h3 (fun j hj => ?_) ih h6
    obtain ⟨a, rfl, hf, hc⟩ := h4 j hj
    have hlt := cell_lt hc
    rw [add_block] at hlt
    exact ⟨a, rfl, hfree tn _ hlt hf, hcell _ tn (by rw [add_block]; exact hf) _ hc⟩
  | sl cx b inc ver off len sz g cap e n h1 h2 h3 h4 h5 => exact .sl cx b inc ver off len sz g cap e n (hext _ _ _ h1) h2 h3 (hshape _ _ h4) h5
  | ptr b inc ver off g h1 => exact .ptr b inc ver off g (hext _ _ _ h1)
  | fptr tn cells a vs h4 h5 h6 ih =>
    refine .fptr tn cells a vs (fun j hj => ?_) ih h6
    obtain ⟨hf, hc⟩ := h4 j hj
    have hlt := cell_lt hc
    rw [add_block] at hlt
    exact ⟨hfree tn _ hlt hf, hcell _ tn (by rw [add_block]; exact hf) _ hc⟩
  | map b inc g h1 => exact .map b inc g (hext _ _ _ h1)
  | iter b inc g h1 => exact .iter b inc g (hext _ _ _ h1)
  | yld b inc g h1 => exact .yld b inc g (hext _ _ _ h1)
  | func fn fs cs f c h1 h2 h3 h4 ih3 ih4 => exact .func fn fs cs f c h1 h2 ih3 ih4
  | iface t v x h ih => exact .iface t v x ih
  | agg cells cs h1 h2 ih => exact .agg cells cs h1 ih
  | tuple vs xs h1 h2 ih => exact .tuple vs xs h1 ih

theorem Fit.evw {ρ ρ' : Loc} {Res T : Nat → Prop} {st st' : St} {w w' : World} {x : AVal} {v : Value} (h : Fit ρ (Rs ρ st.heap Res) T w x v) (e : EvW ρ ρ' st st' w w') (hres : ∀ g, Res g → g < w.heap.size) :
    Fit ρ' (Rs ρ' st'.heap Res) T w' x v :=
  h.mono e.ext e.shape (fun tn g hlt hf => ⟨fun hr => by
      rcases hr with ho | hr
      · rcases e.new g ho with h1 | h1
        · exact hf.1 (.inl h1)
        · omega
      · exact hf.1 (.inr hr), hf.2⟩)
    (fun a tn hf u hc => by
      have := cell_lt hc
      rw [cell_of_heap (e.frame _ this (fun ho => hf.1 (.inl ho)))]; exact hc)

theorem Fit.ev {ρ ρ' : Loc} {Res T : Nat → Prop} {st st' : St} {w w' : World} {x : AVal} {v : Value} (h : Fit ρ (Rs ρ st.heap Res) T w x v) (e : Ev ρ ρ' st st' w w') (hres : ∀ g, Res g → g < w.heap.size) :
    Fit ρ' (Rs ρ' st'.heap Res) T w' x v := h.evw e.toEvW hres

theorem EnvOk.ev {ρ ρ' : Loc} {Res T : Nat → Prop} {st st' : St} {w w' : World} {env : Env} {tmps : Array Value} (h : EnvOk ρ (Rs ρ st.heap Res) T w env tmps) (e : Ev ρ ρ' st st' w w') (hres : ∀ g, Res g → g < w.heap.size) :
    EnvOk ρ' (Rs ρ' st'.heap Res) T w' env tmps := fun k v hk => (h k v hk).ev e hres

theorem FitL.ev {ρ ρ' : Loc} {Res T : Nat → Prop} {st st' : St} {w w' : World} {xs : List AVal} {vs : List Value} (h : FitL ρ (Rs ρ st.heap Res) T w xs vs) (e : Ev ρ ρ' st st' w w') (hres : ∀ g, Res g → g < w.heap.size) :
    FitL ρ' (Rs ρ' st'.heap Res) T w' xs vs := ⟨h.1, fun j hj => (h.2 j hj).ev e hres⟩

end Go.Ax
