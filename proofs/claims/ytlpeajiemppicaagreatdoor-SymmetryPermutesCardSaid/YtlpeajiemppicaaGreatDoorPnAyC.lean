/- Calls of functions: in the caller's heap, or in one of their own. -/
import Derived.Test.YtlpeajiemppicaaGreatDoorPnAyB
import Derived.Sort.Grow
import Derived.RangeFuncLeaves
import Derived.RangeFuncCalls
import Derived.OrdersIn
namespace Go.Ax
set_option linter.unusedVariables false
set_option linter.unusedSimpArgs false
variable {P : Program} {pol : Pol} {ρ : Loc} {R T : Nat → Prop} {w : World}

theorem Fit.pureMono {ρ ρ' : Loc} {R T R' T' : Nat → Prop} {w w' : World} {x : AVal} {v : Value} (h : Fit ρ R T w x v) (hp : x.pure = true)
    (hfree : ∀ tn g, g < w.heap.size → Free R T tn g → Free R' T' tn g) (hcell : ∀ a tn, Free R T tn a.block → ∀ u, w.cell? a = some u → w'.cell? a = some u) : Fit ρ' R' T' w' x v := by
  induction h with
  | bool b => exact .bool b
  | int k n => exact .int k n
  | str s => exact .str s
  | nilptr => exact .nilptr
  | nilfunc => exact .nilfunc
  | nilif => exact .nilif
  | nilmap => exact .nilmap
  | fsl tn cx len cells A cap vs h1 h2 h3 h4 h5 h6 ih =>
    refine .fsl tn cx len cells A cap vs h1 h2 h3 (fun j hj => ?_) (fun j hj => ih j hj (allPure_iff.1 h6 _ (List.getElem_mem hj))) h6
    obtain ⟨a, rfl, hf, hc⟩ := h4 j hj
    have hlt := cell_lt hc
    rw [add_block] at hlt
    exact ⟨a, rfl, hfree tn _ hlt hf, hcell _ tn (by rw [add_block]; exact hf) _ hc⟩
  | fptr tn cells a vs h4 h5 h6 ih =>
    refine .fptr tn cells a vs (fun j hj => ?_) (fun j hj => ih j hj (allPure_iff.1 h6 _ (List.getElem_mem hj))) h6
    obtain ⟨hf, hc⟩ := h4 j hj
    have hlt := cell_lt hc
    rw [add_block] at hlt
    exact ⟨hfree tn _ hlt hf, hcell _ tn (by rw [add_block]; exact hf) _ hc⟩
  | sl => cases hp
  | ptr => cases hp
  | map => cases hp
  | iter => cases hp
  | yld => cases hp
  | func fn fs cs f c h1 h2 h3 h4 ih3 ih4 =>
    simp only [AVal.pure, Bool.and_eq_true] at hp
    exact .func fn fs cs f c h1 h2 (fun j hj => ih3 j hj (allPure_iff.1 hp.1 _ (List.getElem_mem hj))) (fun j hj => ih4 j hj (allPure_iff.1 hp.2 _ (List.getElem_mem hj)))
  | iface t v x h ih => exact .iface t v x (ih (by simpa [AVal.pure] using hp))
  | agg cells cs h1 h2 ih =>
    simp only [AVal.pure] at hp
    exact .agg cells cs h1 (fun j hj => ih j hj (allPure_iff.1 hp _ (List.getElem_mem hj)))
  | tuple vs xs h1 h2 ih =>
    simp only [AVal.pure] at hp
    exact .tuple vs xs h1 (fun j hj => ih j hj (allPure_iff.1 hp _ (List.getElem_mem hj)))

theorem allClean_iff : ∀ {l : List AVal}, allClean l = true ↔ ∀ x ∈ l, x.clean = true
  | [] => by simp [allClean]
  | v :: r => by simp [allClean, allClean_iff (l := r)]

theorem Fit.cleanMono {ρ ρ' : Loc} {R T R' T' : Nat → Prop} {w w' : World} {x : AVal} {v : Value} (h : Fit ρ R T w x v) (hp : x.clean = true)
    (hfree : ∀ g, g < w.heap.size → Free R T false g → Free R' T' false g) (hcell : ∀ a, Free R T false a.block → ∀ u, w.cell? a = some u → w'.cell? a = some u) : Fit ρ' R' T' w' x v := by
  induction h with
  | bool b => exact .bool b
  | int k n => exact .int k n
  | str s => exact .str s
  | nilptr => exact .nilptr
  | nilfunc => exact .nilfunc
  | nilif => exact .nilif
  | nilmap => exact .nilmap
  | fsl tn cx len cells A cap vs h1 h2 h3 h4 h5 h6 ih =>
    cases tn with
    | true =>
      cases cells with
      | cons => simp [AVal.clean] at hp
      | nil => exact .fsl true cx len [] A cap vs h1 h2 h3 (fun j hj => by simp at hj) (fun j hj => by simp at hj) h6
    | false =>
      simp only [AVal.clean, cond_false] at hp
      refine .fsl false cx len cells A cap vs h1 h2 h3 (fun j hj => ?_) (fun j hj => ih j hj (allClean_iff.1 hp _ (List.getElem_mem hj))) h6
      obtain ⟨a, rfl, hf, hc⟩ := h4 j hj
      have hlt := cell_lt hc
      rw [add_block] at hlt
      exact ⟨a, rfl, hfree _ hlt hf, hcell _ (by rw [add_block]; exact hf) _ hc⟩
  | fptr tn cells a vs h4 h5 h6 ih =>
    cases tn with
    | true => simp [AVal.clean] at hp
    | false =>
      simp only [AVal.clean, cond_false] at hp
      refine .fptr false cells a vs (fun j hj => ?_) (fun j hj => ih j hj (allClean_iff.1 hp _ (List.getElem_mem hj))) h6
      obtain ⟨hf, hc⟩ := h4 j hj
      have hlt := cell_lt hc
      rw [add_block] at hlt
      exact ⟨hfree _ hlt hf, hcell _ (by rw [add_block]; exact hf) _ hc⟩
  | sl => cases hp
  | ptr => cases hp
  | map => cases hp
  | iter => cases hp
  | yld => cases hp
  | func fn fs cs f c h1 h2 h3 h4 ih3 ih4 =>
    simp only [AVal.clean, Bool.and_eq_true] at hp
    exact .func fn fs cs f c h1 h2 (fun j hj => ih3 j hj (allClean_iff.1 hp.1 _ (List.getElem_mem hj))) (fun j hj => ih4 j hj (allClean_iff.1 hp.2 _ (List.getElem_mem hj)))
  | iface t v x h ih => exact .iface t v x (ih (by simpa [AVal.clean] using hp))
  | agg cells cs h1 h2 ih =>
    simp only [AVal.clean] at hp
    exact .agg cells cs h1 (fun j hj => ih j hj (allClean_iff.1 hp _ (List.getElem_mem hj)))
  | tuple vs xs h1 h2 ih =>
    simp only [AVal.clean] at hp
    exact .tuple vs xs h1 (fun j hj => ih j hj (allClean_iff.1 hp _ (List.getElem_mem hj)))

/-- A later world in which every block is as it was. -/
theorem good_world {Res : Nat → Prop} {st : St} {w' : World} (h : Good ρ Res T st w) (hsz : w.heap.size ≤ w'.heap.size) (hfr : ∀ g, g < w.heap.size → w'.heap[g]? = w.heap[g]?)
    (hos : w'.os = w.os) (htape : w'.tape = w.tape) (hout : w'.output = w.output) : Ev ρ ρ st st w w' ∧ Good ρ Res T st w' := by
  have hshape : ∀ g x, w.shape? g = some x → w'.shape? g = some x := fun g x hx => by
    rw [shape_of_heap (hfr g (shape_lt hx))]; exact hx
  have ev : Ev ρ ρ st st w w' := ⟨⟨fun _ _ _ h => h, fun _ h => .inl h, fun g hg _ => hfr g hg, hsz, hshape, hos, htape, hout, Nat.le_refl _⟩, fun _ _ h => h⟩
  refine ⟨ev, ⟨h.inj, fun i v g hg => Nat.lt_of_lt_of_le (h.lt i v g hg) hsz, h.fresh, h.ids, fun b k hk => ?_, h.sep, fun g hg => Nat.lt_of_lt_of_le (h.res g hg) hsz, fun g hg => Nat.lt_of_lt_of_le (h.tnt g hg) hsz⟩⟩
  exact (h.blk b k hk).carry (fun _ _ _ h => h) (fun _ _ h => h) (fun v g hg => hfr g (h.lt _ _ _ hg)) (fun x v hx => hx.ev ev h.res)

def CallR (ρ : Loc) (Res T : Nat → Prop) (st st' : St) (w : World) (v : AVal) : Ending → World → Prop
  | .returned x, w' => ∃ ρ', Fit ρ' (Rs ρ' st'.heap Res) T w' v x ∧ Ev ρ ρ' st st' w w' ∧ Good ρ' Res T st' w'
  | _, _ => False

/-- As 'CallR'; q: nothing new is known of blocks. -/
def CallRq (q : Bool) (ρ : Loc) (Res T : Nat → Prop) (st st' : St) (w : World) (v : AVal) : Ending → World → Prop
  | .returned x, w' => ∃ ρ', (q = false → ρ' = ρ) ∧ Fit ρ' (Rs ρ' st'.heap Res) T w' v x ∧ Ev ρ ρ' st st' w w' ∧ Good ρ' Res T st' w'
  | _, _ => False

def HasBody (P : Program) (f : FuncId) : Prop := ∃ fn c, P.funcs[f]? = some fn ∧ fn.body = some c

def RecCall (P : Program) (pol : Pol) (rec : Task → Option Res) : Prop :=
  ∀ f args st v e st', rec (.call f args st) = some ⟨.val v, e, st'⟩ → ∀ (ρ : Loc) (Res T : Nat → Prop) (w : World) (xs : List Value), Good ρ Res T st w →
    GlobOk pol ρ (Rs ρ st.heap Res) T w → FitL ρ (Rs ρ st.heap Res) T w args xs → HasBody P f ∧ CallsIn Fence.wide 0 P f xs.toArray w (CallR ρ Res T st st' w v)

/-- What is asked of the functions that sort lists of ints in place: by the library's contracts. -/
def SortsOk (pol : Pol) (P : Program) : Prop := ∀ f, pol.sorts f = true → HasBody P f ∧
  (∀ (blk off cap : Nat) (zs : List Int) (w : World), Sort.Holds (Value.int .i64) w blk off zs.toArray → blk < w.heap.size → zs.length < 4611686018427387904 →
    Calls P f #[.slice (some ⟨blk, off, none⟩) zs.length cap] w fun e w' => e = .returned (.tuple #[]) ∧ ∃ n os, w' = Sort.grow (Sort.putRow (Value.int .i64) (Sort.ahead w n) blk off (isort zs).toArray) os) ∧
  (∀ (A : Option Addr) (cap : Nat) (w : World), Calls P f #[.slice A 0 cap] w fun e w' => e = .returned (.tuple #[]) ∧ w' = w)

theorem SortsOk.none {pol : Pol} {P : Program} (h : ∀ f, pol.sorts f = false) : SortsOk pol P := fun f hf => by rw [h f] at hf; cases hf

theorem insI_length (x : Int) : ∀ l, (insI x l).length = l.length + 1
  | [] => rfl
  | y :: r => by
    simp only [insI]
    cases decide (x ≤ y)
    · simp [insI_length x r]
    · simp

theorem isort_length : ∀ l, (isort l).length = l.length
  | [] => rfl
  | x :: r => by simp only [isort, insI_length, isort_length r, List.length_cons]

theorem intsOf_spec : ∀ {l : List AVal} {zs : List Int}, intsOf l = some zs → l = zs.map (.int .i64)
  | [], zs, h => by cases h; rfl
  | v :: r, zs, h => by
    cases v with
    | int k n =>
      cases k <;> try cases h
      simp only [intsOf] at h
      cases hr : intsOf r with
      | none => rw [hr] at h; cases h
      | some l =>
        rw [hr] at h
        cases h
        rw [intsOf_spec hr]
        rfl
    | _ => cases h

theorem putCells_eq {c : Array Value} {off : Nat} {ys : List Int} (h : off + ys.length ≤ c.size) : Sort.putCells (Value.int .i64) off ys.toArray c = (c.toList.take off ++ ys.map (Value.int .i64) ++ c.toList.drop (off + ys.length)).toArray := by
  apply Array.ext_getElem?
  intro k
  unfold Sort.putCells
  rw [Array.getElem?_mapIdx]
  have hr : (c.toList.take off ++ ys.map (Value.int .i64) ++ c.toList.drop (off + ys.length)).toArray[k]? = (c.toList.take off ++ ys.map (Value.int .i64) ++ c.toList.drop (off + ys.length))[k]? := by simp
  rw [hr]
  have hcl : c.toList.length = c.size := by simp
  have htl : (c.toList.take off).length = off := by simp; omega
  rcases Nat.lt_or_ge k off with h1 | h1
  · rw [List.append_assoc, List.getElem?_append_left (by omega), List.getElem?_take, if_pos h1]
    rw [Array.getElem?_toList]
    cases c[k]? with
    | none => rfl
    | some v =>
      have : ¬ (off ≤ k ∧ k < off + ys.toArray.size) := by omega
      simp only [Option.map_some, if_neg this]
  · rcases Nat.lt_or_ge k (off + ys.length) with h2 | h2
    · have hk : k < c.size := by omega
      rw [List.append_assoc, List.getElem?_append_right (by omega), htl, List.getElem?_append_left (by simp; omega), Array.getElem?_eq_getElem hk]
      have hc : off ≤ k ∧ k < off + ys.toArray.size := ⟨h1, by simpa using h2⟩
      have hky : k - off < ys.length := by omega
      simp only [Option.map_some, hc, and_self, if_true, List.getElem?_map, List.getElem?_eq_getElem hky]
      simp [hky]
    · rw [List.getElem?_append_right (by simp; omega)]
      have e : k - (c.toList.take off ++ ys.map (Value.int .i64)).length + (off + ys.length) = k := by simp; omega
      rw [List.getElem?_drop, show off + ys.length + (k - (c.toList.take off ++ ys.map (Value.int .i64)).length) = k by omega, Array.getElem?_toList]
      cases c[k]? with
      | none => rfl
      | some v =>
        have : ¬ (off ≤ k ∧ k < off + ys.toArray.size) := by
          simp only [List.size_toArray]; omega
        simp only [Option.map_some, if_neg this]

theorem asort_ok (hS : SortsOk pol P) {Res : Nat → Prop} {st st' : St} (hg : Good ρ Res T st w) {f : FuncId} (hf : pol.sorts f = true) {args : List AVal} {xs : List Value} (hx : FitL ρ (Rs ρ st.heap Res) T w args xs) (h : asort st args = some st') :
    HasBody P f ∧ CallsIn Fence.wide 0 P f xs.toArray w (CallRq true ρ Res T st st' w .undef) := by
  obtain ⟨hb, hsome, hnone⟩ := hS f hf
  refine ⟨hb, ?_⟩
  have still : ∀ (A : Option Addr) (cap : Nat), st' = st → CallsIn Fence.wide 0 P f #[.slice A 0 cap] w (CallRq true ρ Res T st st' w .undef) := fun A cap e => by
    subst e
    refine callsIn_wide.2 ((hnone A cap w).mono fun e w' ⟨he, hw⟩ => ?_)
    subst he; subst hw
    exact ⟨ρ, (fun h => by cases h), .tuple [] #[] rfl (fun j h => by simp at h), Ev.refl .., hg⟩
  unfold asort at h
  split at h
  · rename_i cxb b inc ver off len sz
    match xs, hx with
    | [X], hx =>
      have h0 := hx.2 0 (by simp)
      have h0 : Fit ρ (Rs ρ st.heap Res) T w (.sl cxb b inc ver off len sz) X := by simpa using h0
      cases h0 with
      | sl _ _ _ _ _ _ _ g cap e N g1 g2 g3 g4 g5 =>
        cases hl : (len == 0) with
        | true =>
          rw [hl, cond_true] at h
          have : len = 0 := by simpa using hl
          subst this
          exact still _ _ (Option.some.inj h).symm
        | false =>
          rw [hl, cond_false] at h
          cases hc : (sz == 1 && Nat.blt len 4611686018427387904) with
          | false => rw [hc] at h; cases h
          | true =>
            rw [hc, cond_true] at h
            simp only [Bool.and_eq_true, beq_iff_eq] at hc
            cases hr : rowAt st.heap b inc ver off len with
            | none => rw [hr] at h; cases h
            | some cells =>
              rw [hr] at h
              simp only at h
              cases hz : intsOf cells with
              | none => rw [hz] at h; cases h
              | some zs =>
                rw [hz] at h
                simp only at h
                have hcz := intsOf_spec hz
                obtain ⟨r1, c, e', r2, r3⟩ := rowAt_ok hg hr g1
                have hzl : zs.length = len := by rw [hcz] at r1; simpa using r1
                obtain ⟨c', e'', p1, p2, p3, p4⟩ := good_put hg h g1 (xs := (isort zs).map (Value.int .i64)) ⟨by simp, fun j hj => by
                  have hj' : j < (isort zs).length := by simpa using hj
                  rw [List.getD_eq_getElem?_getD, List.getElem?_map, List.getElem?_eq_getElem hj']
                  simp only [List.getElem_map, Option.map_some, Option.getD_some]
                  exact .int _ _⟩
                rw [r2] at p1
                cases p1
                have hlen' : ((isort zs).map (Value.int .i64)).length = zs.length := by rw [List.length_map, isort_length]
                have hholds : Sort.Holds (Value.int .i64) w g off zs.toArray := fun j hj => by
                  have hj' : j < zs.length := by simpa using hj
                  obtain ⟨v, hv1, hv2⟩ := r3 j (by rw [hcz]; simpa using hj')
                  have : v = .int .i64 zs[j] := by
                    have e1 : cells[j]'(by rw [hcz]; simpa using hj') = .int .i64 zs[j] := by
                      have e2 : cells[j]? = some (.int .i64 zs[j]) := by rw [hcz]; simp [hj']
                      exact (List.getElem?_eq_some_iff.1 e2).2
                    rw [e1] at hv2
                    cases hv2
                    rfl
                  subst this
                  constructor
                  · unfold World.cell?
                    simp only [r2]
                    simpa [hj'] using hv1
                  · unfold World.frozen?
                    simp [r2]
                subst hzl
                refine callsIn_wide.2 ((hsome g off cap zs w hholds (hg.lt _ _ _ g1) (by simpa using hc.2)).mono fun e w' ⟨he, n, os, hw⟩ => ?_)
                subst he
                obtain ⟨q1, q2⟩ := good_world (w' := w') p4 (by rw [hw]; simp [Sort.grow, Sort.putRow, Sort.mapBlock, Sort.ahead, World.setRow]) (fun k hk => by
                  rw [hw]
                  have hk' : k < w.heap.size := by simpa [World.setRow] using hk
                  have hks : k < (Sort.putRow (Value.int .i64) (Sort.ahead w n) g off (isort zs).toArray).heap.size := by simpa [Sort.putRow, Sort.mapBlock, Sort.ahead] using hk'
                  show ((Sort.putRow (Value.int .i64) (Sort.ahead w n) g off (isort zs).toArray).heap ++ os)[k]? = _
                  rw [Array.getElem?_append_left hks]
                  show (w.heap.modify g _)[k]? = (w.heap.modify g _)[k]?
                  rw [Array.getElem?_modify, Array.getElem?_modify]
                  by_cases hgk : g = k
                  · subst hgk
                    simp only [if_true, r2, Option.map_some, Sort.onCells]
                    rw [putCells_eq (by rw [isort_length]; rw [hlen'] at p2; exact p2)]
                    rw [List.length_map]
                  · simp only [hgk, if_false]) (by rw [hw]; rfl) (by rw [hw]; rfl) (by rw [hw]; rfl)
                exact ⟨ρ, (fun h => by cases h), .tuple [] #[] rfl (fun j h => by simp at h), p3.trans q1, q2⟩
  · rename_i tn cxb cells
    match xs, hx with
    | [X], hx =>
      have h0 := hx.2 0 (by simp)
      have h0 : Fit ρ (Rs ρ st.heap Res) T w (.fsl tn cxb 0 cells) X := by simpa using h0
      cases h0 with
      | fsl _ _ _ _ A cap us h1 h2 h3 h4 h5 h6 => exact still _ _ (Option.some.inj h).symm
  · cases h

theorem own_none {g : Nat} : ¬ Own (fun _ _ => none) ([] : Heap) g := fun ⟨b, k, v, h, _⟩ => by simp [lkI] at h

theorem acallFn_ok {rec : Task → Option Res} (hS : SortsOk pol P) (hr : RecCall P pol rec) {Res : Nat → Prop} {st st' : St} (hg : Good ρ Res T st w) (hgl : GlobOk pol ρ (Rs ρ st.heap Res) T w) {f : FuncId} {args : List AVal} {xs : List Value}
    (hf : FitL ρ (Rs ρ st.heap Res) T w args xs) {v : AVal} {tch : Bool} (h : acallFn rec pol f args st = some (v, st', tch)) :
    HasBody P f ∧ CallsIn Fence.wide 0 P f xs.toArray w (CallRq tch ρ Res T st st' w v) ∧ (tch = false → st' = st) := by
  have hsh : acallShared rec f args st = some (v, st', tch) → HasBody P f ∧ CallsIn Fence.wide 0 P f xs.toArray w (CallRq tch ρ Res T st st' w v) ∧ (tch = false → st' = st) := by
    intro h
    unfold acallShared at h
    split at h
    · rename_i v1 e1 st1 hrec
      simp only [Option.some.injEq, Prod.mk.injEq] at h
      obtain ⟨rfl, rfl, rfl⟩ := h
      obtain ⟨h1, h2⟩ := hr _ _ _ _ _ _ hrec ρ Res T w xs hg hgl hf
      exact ⟨h1, h2.mono fun e w' he => by
        cases e with
        | panicked | outgrown => exact he.elim
        | returned x => obtain ⟨ρ', k⟩ := he; exact ⟨ρ', (fun h => by cases h), k⟩, fun h => by cases h⟩
    · cases h
  unfold acallFn at h
  cases hso : pol.sorts f with
  | true =>
    rw [hso, cond_true] at h
    obtain ⟨h2, rfl, rfl⟩ := storeR_some h
    obtain ⟨k1, k2⟩ := asort_ok hS hg hso hf h2
    exact ⟨k1, k2, fun h => by cases h⟩
  | false =>
  rw [hso, cond_false] at h
  cases hs : pol.shared f with
  | true => rw [hs, cond_true] at h; exact hsh h
  | false =>
    rw [hs, cond_false] at h
    cases hz : frzL true st.heap args [] with
    | none => rw [hz] at h; exact hsh h
    | some p =>
      obtain ⟨args', ids⟩ := p
      rw [hz] at h
      simp only at h
      obtain ⟨_, hpure, hlen, _, hfz⟩ := frzL_ok hg args [] args' ids (fun j => xs.getD j undef) hz hf.2
      let Res0 : Nat → Prop := fun g => Rs ρ st.heap Res g ∧ ¬ KOwn ρ st.heap ids g
      let T0 : Nat → Prop := fun g => T g ∨ KOwn ρ st.heap ids g
      let ρ0 : Loc := fun _ _ => none
      have lent : Lent ρ st.heap (Rs ρ st.heap Res) T true ids Res0 T0 := ⟨fun g h => h.1, fun g h => h.2, fun g h => h.elim .inl fun h => .inr ⟨rfl, h⟩⟩
      have hRs0 : ∀ g, Rs ρ0 St.init.heap Res0 g → Res0 g := fun g h => h.elim (fun h => absurd h own_none) id
      have hfr0 : ∀ tn g, Free Res0 T0 tn g → Free (Rs ρ0 St.init.heap Res0) T0 tn g := fun tn g h => ⟨fun h' => h.1 (hRs0 g h'), h.2⟩
      have hltR : ∀ g, Rs ρ st.heap Res g → g < w.heap.size := fun g h => h.elim (own_lt hg) (hg.res g)
      have g0 : Good ρ0 Res0 T0 St.init w := {
        inj := fun _ _ _ _ _ h => by cases h
        lt := fun _ _ _ h => by cases h
        fresh := fun _ _ _ => rfl
        ids := fun _ _ _ _ h => by cases h
        blk := fun _ _ h => by cases h
        sep := fun g h => absurd h own_none
        res := fun g h => hltR g h.1
        tnt := fun g h => h.elim (hg.tnt g) fun h => own_lt hg h.own }
      have gl0 : GlobOk pol ρ0 (Rs ρ0 St.init.heap Res0) T0 w := fun g cells hc =>
        (hgl g cells hc).pureMono rfl (fun tn g _ hf => hfr0 tn g (lent.sub (fun g h => .inl h) (ids' := ids) hf)) (fun _ _ _ _ h => h)
      have f0 : FitL ρ0 (Rs ρ0 St.init.heap Res0) T0 w args' xs := ⟨by rw [hlen]; exact hf.1, fun j hj =>
        (hfz ids (fun b h => h) Res0 T0 lent j hj).pureMono (allPure_iff.1 hpure _ (List.getElem_mem hj)) (fun tn g _ hf => hfr0 tn g hf) (fun _ _ _ _ h => h)⟩
      cases hrec : rec (.call f args' St.init) with
      | none => rw [hrec] at h; cases h
      | some r =>
        obtain ⟨o, e1, st1⟩ := r
        cases o with
        | norm | exit | goto | ret => rw [hrec] at h; cases h
        | val v0 =>
          rw [hrec] at h
          simp only at h
          obtain ⟨hb, hcall⟩ := hr _ _ _ _ _ _ hrec ρ0 Res0 T0 w xs g0 gl0 f0
          cases hz2 : frz false st1.heap v0 with
          | none => rw [hz2] at h; cases h
          | some q =>
            obtain ⟨r, acc⟩ := q
            rw [hz2] at h
            simp only at h
            have back : ∀ {x w'}, CallR ρ0 Res0 T0 St.init st1 w v0 (.returned x) w' → ∃ ρ', Fit ρ' Res0 T0 w' r x ∧ r.pure = true ∧ Ev ρ ρ st st w w' ∧ Good ρ Res T st w' := by
              rintro x w' ⟨ρ', h1, h2, h3⟩
              obtain ⟨p1, _, p2⟩ := frz_ok h3 hz2 h1
              obtain ⟨ev, good⟩ := good_world hg h2.size (fun g hg => h2.frame g hg own_none) h2.os h2.tape h2.output
              refine ⟨ρ', p2 acc (fun _ h => h) Res0 T0 ⟨fun g h => .inr h, fun g h hk => (h3.sep g hk.own).1 h, fun g h => .inl h⟩, p1, ev, good⟩
            have ffree : ∀ g, Free Res0 T0 false g → Free (Rs ρ st.heap Res) T false g := fun g hf =>
              ⟨fun hR => hf.1 ⟨hR, fun hk => hf.2 rfl (.inr hk)⟩, fun _ hT => hf.2 rfl (.inl hT)⟩
            cases ids with
            | nil =>
              simp only [Option.some.injEq, Prod.mk.injEq] at h
              obtain ⟨rfl, rfl, rfl⟩ := h
              refine ⟨hb, hcall.mono fun e w' he => ?_, fun _ => rfl⟩
              cases e with
              | panicked | outgrown => exact he.elim
              | returned x =>
                obtain ⟨ρ', f1, p1, ev, good⟩ := back he
                refine ⟨ρ, (fun _ => rfl), f1.pureMono p1 (fun tn g _ hf => ⟨fun hR => hf.1 ⟨hR, fun ⟨b, hb, _⟩ => by cases hb⟩, fun e hT => hf.2 e (.inl hT)⟩) (fun _ _ _ _ h => h), ev, good⟩
            | cons b bs =>
              simp only at h
              cases hc : r.clean with
              | true =>
                rw [hc, cond_true] at h
                simp only [Option.some.injEq, Prod.mk.injEq] at h
                obtain ⟨rfl, rfl, rfl⟩ := h
                refine ⟨hb, hcall.mono fun e w' he => ?_, fun _ => rfl⟩
                cases e with
                | panicked | outgrown => exact he.elim
                | returned x =>
                  obtain ⟨ρ', f1, p1, ev, good⟩ := back he
                  exact ⟨ρ, (fun _ => rfl), f1.cleanMono hc (fun g _ hf => ffree g hf) (fun _ _ _ h => h), ev, good⟩
              | false =>
                rw [hc, cond_false] at h
                simp only [Option.some.injEq, Prod.mk.injEq] at h
                obtain ⟨rfl, rfl, rfl⟩ := h
                refine ⟨hb, hcall.mono fun e w' he => ?_, fun h => by cases h⟩
                cases e with
                | panicked | outgrown => exact he.elim
                | returned x =>
                  obtain ⟨ρ', f1, p1, ev, good⟩ := back he
                  obtain ⟨ev2, good2⟩ := good_kill good (b :: bs)
                  have kl := kill_lent hg (b :: bs)
                  refine ⟨ρ, (fun _ => rfl), f1.pureMono p1 (fun tn g _ hf => ⟨fun hR => hf.1 ⟨kl.r g hR, kl.k g hR⟩, fun e hT => hf.2 e (.inl hT)⟩) (fun _ _ _ _ h => h), ev.trans ev2, good2⟩

def NoNG (P : Program) : Prop := ∀ (f : FuncId) (fn : Func), P.funcs[f]? = some fn → fn.body.isSome = true → (fn.name == "runtime.NumGoroutine") = false

/-- What the soundness leans on. -/
def Sane (pol : Pol) (P : Program) : Prop := NoNG P ∧ SortsOk pol P

theorem run_callFunc (hP : NoNG P) {f : FuncId} (hb : HasBody P f) (args : Array Value) (w : World) : (callFunc f args).run P w = .ok (.enter f args) w := by
  obtain ⟨fn, c, h1, h2⟩ := hb
  have h3 := hP f fn h1 (by rw [h2]; rfl)
  have h4 : ¬ fn.name = "runtime.NumGoroutine" := fun e => by rw [e] at h3; simp at h3
  simp [callFunc, Sem.run, program, h1, h2, h4, pure]
end Go.Ax
