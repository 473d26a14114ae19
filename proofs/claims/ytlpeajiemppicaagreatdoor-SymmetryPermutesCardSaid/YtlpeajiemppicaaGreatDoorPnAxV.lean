/- Each abstract operation stands for the model's: conversions, min and max, len, look-ups, type assertions, methods. -/
import Derived.Test.YtlpeajiemppicaaGreatDoorPnAxU
import Derived.Laws.BytesString
namespace Go.Ax
set_option linter.unusedVariables false
set_option linter.unusedSimpArgs false

variable {P : Program} {pol : Pol} {ρ : Loc} {R T : Nat → Prop} {w : World}

theorem abytesOf_ok : ∀ {cells : List AVal} {l : List Nat}, abytesOf 1 cells = some l → l.length = cells.length ∧ (∀ n ∈ l, n < 256) ∧ ∀ j (h : j < cells.length) (h' : j < l.length), cells[j] = .int .u8 (l[j] : Int)
  | [], l, h => by simp only [abytesOf, Option.some.injEq] at h; subst h; exact ⟨rfl, fun n h => by simp at h, fun j h => by simp at h⟩
  | v :: r, l, h => by
    cases v with
    | int k n =>
      cases k <;> simp only [abytesOf, reduceCtorEq] at h
      cases hc : (decide (0 ≤ n) && decide (n < 256)) with
      | false => rw [hc] at h; cases h
      | true =>
        rw [hc, cond_true] at h
        simp only [Bool.and_eq_true, decide_eq_true_eq] at hc
        cases h1 : abytesOf 1 r with
        | none => rw [h1] at h; cases h
        | some s =>
          rw [h1] at h
          simp only [Option.some.injEq] at h
          subst h
          obtain ⟨a1, a2, a3⟩ := abytesOf_ok h1
          refine ⟨by simp [a1], fun m hm => ?_, fun j hj hj' => ?_⟩
          · rcases List.mem_cons.1 hm with rfl | hm
            · omega
            · exact a2 m hm
          · cases j with
            | zero => simp only [List.getElem_cons_zero]; congr 1; omega
            | succ j => exact a3 j (by simpa using hj) (by simpa using hj')
    | _ => simp [abytesOf] at h

theorem foldl_push (l : List Nat) : ∀ s : ByteArray, ((l.map fun n : Nat => (n : Int)).foldl (fun (r : ByteArray) (n : Int) => r.push (UInt8.ofNat n.toNat)) s).data.toList = s.data.toList ++ l.map UInt8.ofNat := by
  induction l with
  | nil => intro s; simp
  | cons n l ih => intro s; simp only [List.map_cons, List.foldl_cons, ih]; simp

theorem bytes_back (l : List Nat) (h : ∀ n ∈ l, n < 256) : (l.map UInt8.ofNat).map UInt8.toNat = l := by
  rw [List.map_map]
  conv => rhs; rw [← List.map_id l]
  apply List.map_congr_left
  intro n hn
  have := h n hn
  simp [UInt8.toNat_ofNat']
  omega

theorem bytesToString_ok {cells : List AVal} {l : List Nat} (h : abytesOf 1 cells = some l) {a : Addr} {len cap : Nat} (hl : cells.length = len) {f : Nat → Value}
    (hf : ∀ j (hj : j < cells.length), w.cell? (a.add j) = some (f j) ∧ Fit ρ R T w cells[j] (f j)) : ∃ z, (Conv.bytesToString (.slice (some a) len cap)).run P w = .ok z w ∧ Fit ρ R T w (.str l) z := by
  obtain ⟨a1, a2, a3⟩ := abytesOf_ok h
  have hload : (loadCells a len).run P w = .ok (((l.map fun n : Nat => (n : Int)).map (Value.int .u8)).toArray) w := by
    rw [run_loadCells w a len f (fun j hj => (hf j (by omega)).1)]
    congr 2
    apply List.ext_getElem
    · simp; omega
    · intro j h1 h2
      simp only [List.getElem_map, List.getElem_range]
      have hj : j < cells.length := by simp at h1; omega
      have := (hf j hj).2
      rw [a3 j hj (by omega)] at this
      generalize f j = y at this
      cases this; rfl
  refine ⟨_, run_bytesToString w a len cap _ hload, ?_⟩
  have hd := foldl_push l ByteArray.empty
  have : (((l.map fun n : Nat => (n : Int)).foldl (fun (r : ByteArray) (n : Int) => r.push (UInt8.ofNat n.toNat)) ByteArray.empty).data.toList.map UInt8.toNat) = l := by
    rw [hd]; simpa using bytes_back l a2
  have hs := Fit.str (ρ := ρ) (R := R) (T := T) (w := w) ((l.map fun n : Nat => (n : Int)).foldl (fun (r : ByteArray) (n : Int) => r.push (UInt8.ofNat n.toNat)) ByteArray.empty)
  rw [this] at hs; exact hs

theorem aconvert_ok {Res : Nat → Prop} {st st' : St} (hg : Good ρ Res T st w) {cx : Cx} {dst : Option Tmp} {src dt : TypeId} {a v : AVal} {tch : Bool} {X : Value} (h : aconvert pol cx P dst src dt a st = some (v, st', tch))
    (hx : Fit ρ (Rs ρ st.heap Res) T w a X) : st' = st ∧ ∃ z, (convert src dt X).run P w = .ok z w ∧ Fit ρ (Rs ρ st.heap Res) T w v z := by
  unfold aconvert at h
  split at h
  · rename_i h1 h2
    simp only [Option.some.injEq, Prod.mk.injEq] at h
    obtain ⟨rfl, rfl, rfl⟩ := h
    cases hx
    refine ⟨rfl, _, ?_, .int _ _⟩
    simp [convert, run_underlying h1, run_underlying h2, Conv.intToInt, Sem.run, pure]
  · rename_i h1 h2
    simp only [Option.some.injEq, Prod.mk.injEq] at h
    obtain ⟨rfl, rfl, rfl⟩ := h
    cases hx
    refine ⟨rfl, _, ?_, .str _⟩
    simp [convert, run_underlying h1, run_underlying h2, Sem.run, pure]
  · rename_i h1 h2
    simp only [Option.some.injEq, Prod.mk.injEq] at h
    obtain ⟨rfl, rfl, rfl⟩ := h
    cases hx
    refine ⟨rfl, _, ?_, .str _⟩
    simp [convert, run_underlying h1, run_underlying h2, Conv.intToString, Sem.run, pure]
  · rename_i e tn cx' len cells h1 h2
    split at h
    · rename_i he
      cases hc : (cells.length == len) with
      | false => rw [hc] at h; cases h
      | true =>
        rw [hc, cond_true] at h
        have hc' : cells.length = len := by simpa using hc
        cases hb : abytesOf 1 cells with
        | none => rw [hb] at h; cases h
        | some l =>
          rw [hb] at h
          simp only [Option.some.injEq, Prod.mk.injEq] at h
          obtain ⟨rfl, rfl, rfl⟩ := h
          cases hx with
          | fsl _ _ _ _ A cap vs g1 g2 g3 g4 g5 =>
            refine ⟨rfl, ?_⟩
            rw [run_convert_bytes_string w src dt e A len cap h1 he h2]
            cases A with
            | none =>
              have : cells = [] := by
                cases cells with
                | nil => rfl
                | cons c r => obtain ⟨a, ha, _⟩ := g4 0 (by simp); cases ha
              subst this
              simp only [abytesOf, Option.some.injEq] at hb
              subst hb
              exact ⟨.string ByteArray.empty, by simp [Conv.bytesToString, Sem.run, pure], Fit.str ByteArray.empty⟩
            | some a =>
              exact bytesToString_ok hb hc' (f := vs) (fun j hj => by
                obtain ⟨a', ha, _, b2⟩ := g4 j hj
                cases ha; exact ⟨b2, g5 j hj⟩)
    · cases h
  · rename_i e cx' b inc ver off len sz h1 h2
    split at h
    · rename_i he
      cases hc : (sz == 1) with
      | false => rw [hc] at h; cases h
      | true =>
        rw [hc, cond_true] at h
        cases hr : rowAt st.heap b inc ver off len with
        | none => rw [hr] at h; cases h
        | some cells =>
          rw [hr] at h
          simp only at h
          cases hb : abytesOf 1 cells with
          | none => rw [hb] at h; cases h
          | some l =>
            rw [hb] at h
            simp only [Option.some.injEq, Prod.mk.injEq] at h
            obtain ⟨rfl, rfl, rfl⟩ := h
            cases hx with
            | sl _ _ _ _ _ _ _ g cap e' n g1 g2 g3 g4 g5 =>
              refine ⟨rfl, ?_⟩
              rw [run_convert_bytes_string w src dt e _ len cap h1 he h2]
              obtain ⟨hl, c, e'', hgc, hcells⟩ := rowAt_ok hg hr g1
              exact bytesToString_ok hb hl (f := fun j => c.getD (off + j) undef) (fun j hj => by
                obtain ⟨v, hv, hf⟩ := hcells j hj
                have e3 : c.getD (off + j) undef = v := by simp [Array.getD_eq_getD_getElem?, hv]
                show w.cell? _ = some (c.getD (off + j) undef) ∧ Fit _ _ _ _ _ (c.getD (off + j) undef)
                rw [addr_add, cell_of_cells hgc, hv, e3]; exact ⟨rfl, hf⟩)
    · cases h
  · cases h

/-! ### builtins that only read -/
theorem aminL_ok {isMax : Bool} : ∀ {r : List AVal} {a v : AVal} {X : Value} {xs : List Value}, aminL isMax a r = some v → Fit ρ R T w a X → FitL ρ R T w r xs →
    ∃ z, (∀ w', (xs.foldlM (if isMax then Builtin.max2 else Builtin.min2) X).run P w' = .ok z w') ∧ Fit ρ R T w v z
  | [], a, v, X, xs, h, hx, hr => by
    simp only [aminL, Option.some.injEq] at h
    subst h
    have : xs = [] := List.eq_nil_of_length_eq_zero (by simpa using hr.1)
    subst this
    exact ⟨X, fun w' => by simp [Sem.run, pure], hx⟩
  | b :: r, a, v, X, xs, h, hx, hr => by
    match xs, hr.1 with
    | Y :: ys, hl =>
      simp only [aminL] at h
      cases h1 : amin2 isMax a b with
      | none => rw [h1] at h; cases h
      | some u =>
        rw [h1] at h
        simp only at h
        have hy : Fit ρ R T w b Y := hr.2 0 (by simp)
        have hrest : FitL ρ R T w r ys := ⟨by simpa using hr.1, fun j hj => hr.2 (j + 1) (by simpa using hj)⟩
        cases a <;> cases b <;> simp only [amin2, reduceCtorEq] at h1
        simp only [Option.some.injEq] at h1
        subst h1
        cases hx; cases hy
        rename_i k i k' j
        cases isMax with
        | true =>
          obtain ⟨z, b1, b2⟩ := aminL_ok (isMax := true) h (.int _ _) hrest
          refine ⟨z, fun w' => ?_, b2⟩
          simp only [if_true, List.foldlM_cons, Builtin.max2] at b1 ⊢
          have := b1 w'
          simp only [Sem.run_bind, Sem.run_pure, Result.andThen_ok, cond_true] at this ⊢
          exact this
        | false =>
          obtain ⟨z, b1, b2⟩ := aminL_ok (isMax := false) h (.int _ _) hrest
          refine ⟨z, fun w' => ?_, b2⟩
          simp only [Bool.false_eq_true, if_false, List.foldlM_cons, Builtin.min2] at b1 ⊢
          have := b1 w'
          simp only [Sem.run_bind, Sem.run_pure, Result.andThen_ok, cond_false] at this ⊢
          exact this

theorem alen_ok {Res : Nat → Prop} {st : St} (hg : Good ρ Res T st w) {t : TypeId} {a v : AVal} {X : Value} {ts : Array TypeId} {ty : TypeId} {xs : Array Value} (h : alen P t a st = some v) (hx : Fit ρ (Rs ρ st.heap Res) T w a X)
    (ht : ts[0]? = some t) (hX : xs[0]? = some X) : ∃ z, (Builtin.len_ ts ty xs).run P w = .ok z w ∧ Fit ρ (Rs ρ st.heap Res) T w v z := by
  unfold alen at h
  split at h
  · rename_i s hu
    simp only [Option.some.injEq] at h; subst h
    cases hx with
    | str s =>
      refine ⟨_, ?_, .int .i64 _⟩
      simp [Builtin.len_, ht, hX, run_underlying hu, goInt, Sem.run, pure]
  · rename_i n e hu
    simp only [Option.some.injEq] at h; subst h
    refine ⟨_, ?_, .int .i64 _⟩
    cases X <;> simp [Builtin.len_, ht, hX, run_underlying hu, goInt, Sem.run, pure]
  · rename_i e cx b inc ver off n sz hu
    simp only [Option.some.injEq] at h; subst h
    cases hx
    refine ⟨_, ?_, .int .i64 _⟩
    simp [Builtin.len_, ht, hX, run_underlying hu, goInt, Sem.run, pure]
  · rename_i e tn cx n cells hu
    simp only [Option.some.injEq] at h; subst h
    cases hx
    refine ⟨_, ?_, .int .i64 _⟩
    simp [Builtin.len_, ht, hX, run_underlying hu, goInt, Sem.run, pure]
  · rename_i k e hu
    simp only [Option.some.injEq] at h; subst h
    cases hx
    refine ⟨_, ?_, .int .i64 _⟩
    simp [Builtin.len_, ht, hX, run_underlying hu, goInt, Sem.run, pure]
  · rename_i k e b inc hu
    cases hl : lkI b st.heap with
    | none => rw [hl] at h; cases h
    | some blk =>
      rw [hl] at h
      cases blk with
      | row => cases h
      | iter => cases h
      | loop => cases h
      | map inc' es =>
        simp only at h
        cases hc : (inc' == inc) with
        | false => rw [hc] at h; cases h
        | true =>
          rw [hc] at h
          simp only [cond_true, Option.some.injEq] at h
          subst h
          have hc' : inc' = inc := by simpa using hc
          subst hc'
          cases hx with
          | map _ _ g h1 =>
            obtain ⟨g', h2, _, entries, clock, h3, h4, h5⟩ := hg.blk b _ hl
            rw [h1] at h2; cases h2
            refine ⟨_, ?_, .int .i64 _⟩
            have : (getObj g).run P w = .ok (.map entries clock) w := by simp [getObj, Sem.run, h3]
            simp [Builtin.len_, ht, hX, run_underlying hu, goInt, Sem.run, pure, this, h4]
  · cases h

/-! ### maps read -/
theorem keyEq_now {P : Program} {kt : TypeId} {a b : AVal} {X Y : Value} {r : Bool} (h : keyEq a b = some r) (hx : Fit ρ R T w a X) (hy : Fit ρ R T w b Y) {d : TypeDesc} (hu : P.underlying kt = some d) (hp : plainKey P kt a = true) :
    Instr.sameNow d X Y = some r := by
  unfold plainKey at hp
  rw [hu] at hp
  cases a <;> cases b <;> simp only [keyEq, reduceCtorEq] at h
  · simp only [Option.some.injEq] at h; subst h
    cases hx; cases hy
    cases d <;> simp at hp
    simp [Instr.sameNow]
  · rename_i k i k' j
    cases hk : (k == k') with
    | false => rw [hk] at h; cases h
    | true =>
      rw [hk] at h
      simp only [cond_true, Option.some.injEq] at h; subst h
      have hk' : k = k' := by simpa using hk
      subst hk'
      cases hx; cases hy
      cases d <;> simp at hp
      simp [Instr.sameNow]
  · simp only [Option.some.injEq] at h; subst h
    cases hx with
    | str s => cases hy with
      | str u =>
        cases d <;> simp at hp
        simp only [Instr.sameNow, natsEq_map, Option.some.injEq]
        rw [beq_toListBytes, ByteArray.toList_eq, ByteArray.toList_eq]

theorem afind_ok {kt : TypeId} {k : AVal} {X : Value} (hx : Fit ρ R T w k X) {d : TypeDesc} (hu : P.underlying kt = some d) (hp : plainKey P kt k = true) : ∀ {es : List (AVal × AVal)} {L : List MapEntry} {r : Option AVal} (i : Nat), afind k es = some r → L.length = es.length →
    (∀ j (h : j < es.length) (h' : j < L.length), Fit ρ R T w es[j].1 L[j].key ∧ Fit ρ R T w es[j].2 L[j].val) →
    ∃ q, Instr.findNow d X L i = some q ∧ (match r with
      | none => q = none
      | some v => ∃ j y, q = some (j, y) ∧ Fit ρ R T w v y ∧ i ≤ j ∧ j < i + L.length)
  | [], [], r, i, h, _, _ => by simp only [afind, Option.some.injEq] at h; subst h; exact ⟨none, rfl, rfl⟩
  | (k', v') :: es, e :: L, r, i, h, hl, hf => by
    simp only [afind] at h
    have h0 := hf 0 (by simp) (by simp)
    cases hk : keyEq k k' with
    | none => rw [hk] at h; cases h
    | some b =>
      rw [hk] at h
      have hn := keyEq_now (P := P) hk hx h0.1 hu hp
      cases b with
      | true =>
        simp only [Option.some.injEq] at h
        subst h
        refine ⟨some (i, e.val), ?_, i, e.val, rfl, h0.2, Nat.le_refl _, by simp⟩
        simp only [Instr.findNow]
        have hn' : Instr.sameNow d X e.key = some true := hn
        rw [hn']
      | false =>
        obtain ⟨q, h1, h2⟩ := afind_ok hx hu hp (i + 1) h (by simpa using hl) (fun j h h' => hf (j + 1) (by simpa using h) (by simpa using h'))
        refine ⟨q, ?_, ?_⟩
        · simp only [Instr.findNow]
          have hn' : Instr.sameNow d X e.key = some false := hn
          rw [hn']; exact h1
        · cases r with
          | none => exact h2
          | some v =>
            obtain ⟨j, y, e1, e2, e3, e4⟩ := h2
            exact ⟨j, y, e1, e2, by omega, by simp only [List.length_cons]; omega⟩

theorem run_checkKey1 {kt : TypeId} {k : AVal} {X : Value} (hx : Fit ρ R T w k X) (hp : plainKey P kt k = true) (em : Bool) (n : Nat) (w' : World) : (Instr.checkKey em (n + 1) kt X).run P w' = .ok () w' := by
  unfold plainKey at hp
  cases hu : P.underlying kt with
  | none => rw [hu] at hp; cases k <;> simp at hp
  | some d =>
    rw [hu] at hp
    cases k <;> simp only [reduceCtorEq, Bool.false_eq_true] at hp
    all_goals
      cases hx
      cases d <;> simp at hp
      simp [Instr.checkKey, run_underlying hu, Sem.run, pure]

theorem run_checkKey {kt : TypeId} {k : AVal} {X : Value} (hx : Fit ρ R T w k X) (hp : plainKey P kt k = true) (em : Bool) (w' : World) : (Instr.checkKey em 10000 kt X).run P w' = .ok () w' := run_checkKey1 hx hp em 9999 w'

theorem run_findKey {kt : TypeId} {k : AVal} {X : Value} (hx : Fit ρ R T w k X) {d : TypeDesc} (hu : P.underlying kt = some d) {L : List MapEntry} {q : Option (Nat × Value)} (h : Instr.findNow d X L 0 = some q) (w' : World) :
    (Instr.findKey kt X L).run P w' = .ok q w' := by
  simp [Instr.findKey, run_underlying hu, h, Sem.run, pure]

theorem alookup_ok {Res : Nat → Prop} {st : St} (hg : Good ρ Res T st w) {t : TypeId} {a k v : AVal} {X K : Value} {ok : Bool} (h : alookup P t a k ok st = some v) (hx : Fit ρ (Rs ρ st.heap Res) T w a X) (hk : Fit ρ (Rs ρ st.heap Res) T w k K) :
    ∃ z, (Instr.lookup t X K ok).run P w = .ok z w ∧ Fit ρ (Rs ρ st.heap Res) T w v z := by
  unfold alookup at h
  cases hu : P.underlying t with
  | none => rw [hu] at h; cases h
  | some d =>
    rw [hu] at h
    cases d with
    | map kt et =>
      simp only at h
      cases hp : plainKey P kt k with
      | false => rw [hp] at h; cases h
      | true =>
        rw [hp, cond_true] at h
        -- the entries
        have key : ∀ es (L : Array MapEntry), (match afind k es with
            | none => none
            | some (some v) => some (cond ok (.tuple [v, .bool true]) v)
            | some none => match zeroT P et with
              | none => none
              | some z => some (cond ok (.tuple [z, .bool false]) z)) = some v → L.size = es.length → (∀ j (h : j < es.length) (h' : j < L.size), Fit ρ (Rs ρ st.heap Res) T w es[j].1 L[j].key ∧ Fit ρ (Rs ρ st.heap Res) T w es[j].2 L[j].val) →
            ((X = .map none ∧ L = #[]) ∨ ∃ r c, X = .map (some r) ∧ (getObj r).run P w = .ok (.map L c) w) →
            ∃ z, (Instr.lookup t X K ok).run P w = .ok z w ∧ Fit ρ (Rs ρ st.heap Res) T w v z := by
          intro es L h hL hf hrun
          cases hfd : afind k es with
          | none => rw [hfd] at h; cases h
          | some r =>
            rw [hfd] at h
            have hkd : ∃ kd, P.underlying kt = some kd := by
              unfold plainKey at hp
              cases hku : P.underlying kt with
              | none => rw [hku] at hp; cases k <;> simp at hp
              | some kd => exact ⟨kd, rfl⟩
            obtain ⟨kd, hku⟩ := hkd
            obtain ⟨q, hq, hr⟩ := afind_ok (P := P) (L := L.toList) hk hku hp 0 hfd (by simpa using hL) (fun j h h' => by simpa using hf j h (by simpa using h'))
            have hfk := run_findKey (P := P) hk hku hq w
            have hck := run_checkKey (P := P) hk hp L.isEmpty w
            cases r with
            | some y =>
              obtain ⟨j, yv, rfl, hy, _⟩ := hr
              simp only [Option.some.injEq] at h
              subst h
              refine ⟨if ok then .tuple #[yv, .bool true] else yv, ?_, ?_⟩
              · rcases hrun with ⟨rfl, rfl⟩ | ⟨r, c, rfl, hrun⟩
                · simp only [List.isEmpty_nil, Array.isEmpty_empty] at hck
                  simp [Instr.lookup, run_underlying hu, hck, hfk, Sem.run, pure]
                · simp [Instr.lookup, run_underlying hu, hrun, hck, hfk, Sem.run, pure]
              · cases ok with
                | true => exact .tuple _ _ (by simp) (fun j hj => by
                    simp only [List.length_cons, List.length_nil] at hj
                    match j, hj with
                    | 0, _ => exact hy
                    | 1, _ => exact .bool true)
                | false => exact hy
            | none =>
              simp only at hr
              subst hr
              simp only at h
              cases hz : zeroT P et with
              | none => rw [hz] at h; cases h
              | some zv =>
                rw [hz] at h
                simp only [Option.some.injEq] at h
                subst h
                obtain ⟨zz, z1, z2⟩ := run_zero hz w
                refine ⟨if ok then .tuple #[zz, .bool false] else zz, ?_, ?_⟩
                · rcases hrun with ⟨rfl, rfl⟩ | ⟨r, c, rfl, hrun⟩
                  · simp only [List.isEmpty_nil, Array.isEmpty_empty] at hck
                    simp [Instr.lookup, run_underlying hu, hck, hfk, z1, Sem.run, pure]
                  · simp [Instr.lookup, run_underlying hu, hrun, hck, hfk, z1, Sem.run, pure]
                · have hzf := ofVal_ok ρ (Rs ρ st.heap Res) T w 4 zz zv z2
                  cases ok with
                  | true => exact .tuple _ _ (by simp) (fun j hj => by
                      simp only [List.length_cons, List.length_nil] at hj
                      match j, hj with
                      | 0, _ => exact hzf
                      | 1, _ => exact .bool false)
                  | false => exact hzf
        cases a with
        | nilmap =>
          cases hx
          exact key [] #[] h rfl (fun j h => by simp at h) (.inl ⟨rfl, rfl⟩)
        | map b inc =>
          simp only at h
          cases hl : lkI b st.heap with
          | none => rw [hl] at h; cases h
          | some blk =>
            rw [hl] at h
            cases blk with
            | row => cases h
            | iter => cases h
            | loop => cases h
            | map inc' es =>
              simp only at h
              cases hc : (inc' == inc) with
              | false => rw [hc] at h; cases h
              | true =>
                rw [hc] at h
                simp only [cond_true] at h
                have hc' : inc' = inc := by simpa using hc
                subst hc'
                cases hx with
                | map _ _ g h1 =>
                  obtain ⟨g', h2, _, entries, clock, h3, h4, h5⟩ := hg.blk b _ hl
                  rw [h1] at h2; cases h2
                  exact key es entries h h4 (fun j h h' => h5 j h h') (.inr ⟨g, clock, rfl, by simp [getObj, Sem.run, h3]⟩)
        | _ => simp at h
    | _ => cases h

end Go.Ax
