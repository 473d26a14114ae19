/- Each abstract operation stands for the model's: maps made and written, ranges over strings. -/
import Derived.Test.YtlpeajiemppicaaGreatDoorPnAxZ
namespace Go.Ax
set_option linter.unusedVariables false
set_option linter.unusedSimpArgs false

variable {P : Program} {pol : Pol} {ρ : Loc} {R T : Nat → Prop} {w : World}

theorem bind2_one {Res : Nat → Prop} {st : St} (h : Good ρ Res T st w) (g0 : Nat) : ∀ v g, bind2 ρ st.clock st.clock g0 st.clock v = some g → v = st.clock := fun v g hv => by
  by_cases e : st.clock = st.clock ∧ v = st.clock
  · exact e.2
  · rw [bind2_other e, h.fresh _ _ (.inl (Nat.le_refl _))] at hv; cases hv

theorem newMap_ok {Res : Nat → Prop} {st : St} (hg : Good ρ Res T st w) (b : Id) : ∃ w', w' = { w with heap := w.heap.push (.map #[] 0) } ∧
    Fit (bind2 ρ st.clock st.clock w.heap.size) (Rs (bind2 ρ st.clock st.clock w.heap.size) (upI b (.map st.clock []) st.heap) Res) T w' (.map b st.clock) (.map (some w.heap.size)) ∧
    Ev ρ (bind2 ρ st.clock st.clock w.heap.size) st { st with clock := st.clock + 1, heap := upI b (.map st.clock []) st.heap } w w' ∧ Good (bind2 ρ st.clock st.clock w.heap.size) Res T { st with clock := st.clock + 1, heap := upI b (.map st.clock []) st.heap } w' := by
  obtain ⟨ev, good⟩ := good_new (w' := { w with heap := w.heap.push (.map #[] 0) }) (st' := { st with clock := st.clock + 1, heap := upI b (.map st.clock []) st.heap }) hg b (.map st.clock []) (.map #[] 0) rfl rfl rfl rfl rfl rfl rfl
  refine ⟨_, rfl, .map b _ _ (bind2_same ..), ev, good ⟨w.heap.size, bind2_same .., bind2_one hg _, #[], 0, ?_, rfl, fun j h => by simp at h⟩⟩
  simp

theorem newIter_ok {Res : Nat → Prop} {st : St} (hg : Good ρ Res T st w) (b : Id) (s : ByteArray) : ∃ w', w' = { w with heap := w.heap.push (.stringIter s 0) } ∧
    Fit (bind2 ρ st.clock st.clock w.heap.size) (Rs (bind2 ρ st.clock st.clock w.heap.size) (upI b (.iter st.clock (s.data.toList.map UInt8.toNat) 0) st.heap) Res) T w' (.iter b st.clock) (.pointer (some ⟨w.heap.size, 0, none⟩)) ∧
    Ev ρ (bind2 ρ st.clock st.clock w.heap.size) st { st with clock := st.clock + 1, heap := upI b (.iter st.clock (s.data.toList.map UInt8.toNat) 0) st.heap } w w' ∧
    Good (bind2 ρ st.clock st.clock w.heap.size) Res T { st with clock := st.clock + 1, heap := upI b (.iter st.clock (s.data.toList.map UInt8.toNat) 0) st.heap } w' := by
  obtain ⟨ev, good⟩ := good_new (w' := { w with heap := w.heap.push (.stringIter s 0) }) (st' := { st with clock := st.clock + 1, heap := upI b (.iter st.clock (s.data.toList.map UInt8.toNat) 0) st.heap }) hg b (.iter st.clock (s.data.toList.map UInt8.toNat) 0) (.stringIter s 0) rfl rfl rfl rfl rfl rfl rfl
  refine ⟨_, rfl, .iter b _ _ (bind2_same ..), ev, good ⟨w.heap.size, bind2_same .., bind2_one hg _, s, ?_, rfl⟩⟩
  simp

/-- An object that is no row is replaced. -/
theorem good_obj {Res : Nat → Prop} {st : St} (hg : Good ρ Res T st w) {b : Id} {blk blk' : ABlk} (hl : lkI b st.heap = some blk) (hinc : blk'.inc = blk.inc) {g : Nat} (hr : ρ blk.inc blk.inc = some g) (hone : ∀ v g', ρ blk.inc v = some g' → v = blk.inc)
    {o o' : Obj} (ho : w.heap[g]? = some o) (hc : ∀ c e fr, o ≠ .cells c e fr) (hc' : ∀ c e fr, o' ≠ .cells c e fr) {w' : World} (hw : w' = { w with heap := w.heap.setIfInBounds g o' }) :
    w'.heap[g]? = some o' ∧ Ev ρ ρ st { st with heap := upI b blk' st.heap } w w' ∧ (BlkOk ρ (Rs ρ (upI b blk' st.heap) Res) T w' blk' → Good ρ Res T { st with heap := upI b blk' st.heap } w') := by
  have hlt := hg.lt _ _ _ hr
  have hgw : w'.heap[g]? = some o' := by rw [hw]; simp [hlt]
  have hother : ∀ k, k ≠ g → w'.heap[k]? = w.heap[k]? := fun k hk => by rw [hw]; simp [Array.getElem?_setIfInBounds, Ne.symm hk]
  obtain ⟨ev, good⟩ := good_step (ρ' := ρ) (st' := { st with heap := upI b blk' st.heap }) (w' := w') hg b blk' (by rw [hw]; simp) (by rw [hw]) (by rw [hw]) (by rw [hw]) (fun _ _ _ h => h) (fun _ _ _ h => .inl h)
    (fun k hk hn => hother k (fun e => hn blk.inc (by rw [e, hinc]; exact hr))) (fun k x hx => by
      by_cases e : k = g
      · subst e
        unfold World.shape? at hx
        rw [ho] at hx
        cases o <;> simp at hx
        exact absurd rfl (hc _ _ _)
      · rw [shape_of_heap (hother k e)]; exact hx) rfl (.inr ⟨_, hl, hinc.symm⟩) (Nat.le_refl _) hg.fresh (fun hnn => absurd (hr.symm.trans (hinc ▸ hnn _)) (by intro e; cases e))
  exact ⟨hgw, ev, good⟩

theorem aput_length (k v : AVal) : ∀ es : List (AVal × AVal), ∀ r, afind k es = some r → (aput k v es).length = (match r with | some _ => es.length | none => es.length + 1)
  | [], r, h => by simp only [afind, Option.some.injEq] at h; subst h; rfl
  | (k', v') :: es, r, h => by
    simp only [afind] at h
    cases hk : keyEq k k' with
    | none => rw [hk] at h; cases h
    | some b =>
      rw [hk] at h
      cases b with
      | true =>
        simp only [Option.some.injEq] at h
        subst h
        simp [aput, hk]
      | false =>
        have := aput_length k v es r h
        simp only [aput, hk, Option.getD_some, cond_false, List.length_cons, this]
        cases r <;> rfl

/-- The entries after a store, beside the abstract ones. -/
theorem aput_ok {kt : TypeId} {k v : AVal} {K V : Value} (hk : Fit ρ R T w k K) (hv : Fit ρ R T w v V) {d : TypeDesc} (hu : P.underlying kt = some d) (hp : plainKey P kt k = true) (born : Nat) : ∀ {es : List (AVal × AVal)} {L : List MapEntry} {r : Option AVal}, afind k es = some r → L.length = es.length →
    (∀ j (h : j < es.length) (h' : j < L.length), Fit ρ R T w es[j].1 L[j].key ∧ Fit ρ R T w es[j].2 L[j].val) →
    ∃ q, (∀ i, Instr.findNow d K L i = some (q.map fun p => (i + p.1, p.2))) ∧
      (match r with
       | none => q = none ∧ ∃ L', L' = L ++ [{ key := K, val := V, born }] ∧ L'.length = (aput k v es).length ∧ ∀ j (h : j < (aput k v es).length) (h' : j < L'.length), Fit ρ R T w (aput k v es)[j].1 L'[j].key ∧ Fit ρ R T w (aput k v es)[j].2 L'[j].val
       | some _ => ∃ i x, q = some (i, x) ∧ i < L.length ∧ (∀ (h : i < L.length), Instr.sameNow d K L[i].key = some true) ∧
          ∃ L', L' = L.modify i (fun e => { e with key := K, val := V }) ∧ L'.length = (aput k v es).length ∧ ∀ j (h : j < (aput k v es).length) (h' : j < L'.length), Fit ρ R T w (aput k v es)[j].1 L'[j].key ∧ Fit ρ R T w (aput k v es)[j].2 L'[j].val)
  | [], [], r, h, _, _ => by
    simp only [afind, Option.some.injEq] at h
    subst h
    refine ⟨none, fun i => rfl, rfl, _, rfl, rfl, fun j hj hj' => ?_⟩
    simp only [aput, List.length_cons, List.length_nil] at hj
    obtain rfl : j = 0 := by omega
    exact ⟨hk, hv⟩
  | (k', v') :: es, e :: L, r, h, hl, hf => by
    simp only [afind] at h
    have h0 := hf 0 (by simp) (by simp)
    cases hke : keyEq k k' with
    | none => rw [hke] at h; cases h
    | some b =>
      rw [hke] at h
      have hn : Instr.sameNow d K e.key = some b := keyEq_now (P := P) hke hk h0.1 hu hp
      cases b with
      | true =>
        simp only [Option.some.injEq] at h
        subst h
        refine ⟨some (0, e.val), fun i => by simp only [Instr.findNow, hn]; rfl, 0, e.val, rfl, by simp, fun _ => hn, _, rfl, by simp [aput, hke]; simpa using hl, fun j hj hj' => ?_⟩
        simp only [aput, hke, Option.getD_some, cond_true] at hj ⊢
        cases j with
        | zero => exact ⟨hk, hv⟩
        | succ j =>
          simp only [List.modify_cons, if_true, List.getElem_cons_succ] at hj' ⊢
          have := hf (j + 1) (by simpa using hj) (by simpa using hj')
          simpa using this
      | false =>
        obtain ⟨q, h1, h2⟩ := aput_ok hk hv hu hp born h (by simpa using hl) (fun j h h' => by
          have := hf (j + 1) (by simpa using h) (by simpa using h')
          simpa using this)
        refine ⟨q.map fun p => (p.1 + 1, p.2), fun i => by
          simp only [Instr.findNow, hn, h1 (i + 1)]
          cases q with
          | none => rfl
          | some p => simp; omega, ?_⟩
        cases r with
        | none =>
          obtain ⟨rfl, L', rfl, e2, e3⟩ := h2
          refine ⟨rfl, _, rfl, by simp [aput, hke] at e2 ⊢; exact e2, fun j hj hj' => ?_⟩
          simp only [aput, hke, Option.getD_some, cond_false] at hj ⊢
          cases j with
          | zero => exact h0
          | succ j =>
            have := e3 j (by simpa using hj) (by simpa using hj')
            simpa using this
        | some y =>
          obtain ⟨i, x, rfl, e1, e1', L', rfl, e2, e3⟩ := h2
          refine ⟨i + 1, x, rfl, by simpa using e1, fun h => by simpa using e1' (by simpa using h), _, rfl, by simp [aput, hke] at e2 ⊢; exact e2, fun j hj hj' => ?_⟩
          simp only [aput, hke, Option.getD_some, cond_false] at hj ⊢
          cases j with
          | zero => simpa using h0
          | succ j =>
            have := e3 j (by simpa using hj) (by simpa using hj')
            simpa using this

theorem sameBits_now {d : TypeDesc} {K K' : Value} (h : Instr.sameNow d K K' = some true) : ∀ n, Instr.sameBits n K' K = true := by
  intro n
  cases d <;> cases K <;> cases K' <;> simp [Instr.sameNow] at h
  · subst h; cases n <;> simp [Instr.sameBits]
  · obtain ⟨rfl, rfl⟩ := h; cases n <;> simp [Instr.sameBits]
  · rename_i s1 s2
    have h' : s1 = s2 := by
      rw [beq_toListBytes, ByteArray.toList_eq, ByteArray.toList_eq] at h
      have := (beq_iff_eq.1 h)
      exact ByteArray.ext (Array.toList_inj.1 this)
    subst h'
    have hb : ∀ s : ByteArray, (s == s) = true := fun s => by rw [beq_toListBytes]; simp
    cases n <;> simp [Instr.sameBits, hb]

theorem amapUpdate_ok {Res : Nat → Prop} {st st' : St} (hg : Good ρ Res T st w) {cx : Cx} {t : TypeId} {m k v : AVal} {M K V : Value} (h : amapUpdate pol cx P t m k v st = some st') (hm : Fit ρ (Rs ρ st.heap Res) T w m M) (hk : Fit ρ (Rs ρ st.heap Res) T w k K)
    (hv : Fit ρ (Rs ρ st.heap Res) T w v V) : ∃ w' ρ', (Instr.mapUpdate t M K V).run P w = .ok () w' ∧ Ev ρ ρ' st st' w w' ∧ Good ρ' Res T st' w' := by
  unfold amapUpdate at h
  cases hu : P.underlying t with
  | none => rw [hu] at h; cases h
  | some d =>
    rw [hu] at h
    cases d with
    | map kt et =>
      simp only at h
      cases hp : plainKey P kt k with
      | false => rw [hp] at h; cases h
      | true =>
        rw [hp, cond_true] at h
        generalize hfz : frzData pol cx [v] st = r at h
        obtain ⟨vs, st1⟩ := r
        obtain ⟨ev1, g1, l1, o1, k1, f1⟩ := frzData_ok hg hfz (fun _ => V) (fun j hj => by
          simp only [List.length_cons, List.length_nil] at hj
          obtain rfl : j = 0 := by omega
          exact hv)
        match vs, l1 with
        | [v1], _ =>
          simp only at h
          have hv1 : Fit ρ (Rs ρ st1.heap Res) T w v1 V := f1 0 (by simp)
          have hk1 := hk.ev ev1 hg.res
          have hm1 := hm.ev ev1 hg.res
          cases m with
          | map b inc =>
            simp only at h
            cases hl : lkI b st1.heap with
            | none => rw [hl] at h; cases h
            | some blk =>
              rw [hl] at h
              cases blk with
              | row => cases h
              | iter => cases h
              | loop => cases h
              | map inc' es =>
                simp only at h
                cases hc : (inc' == inc && (afind k es).isSome) with
                | false => rw [hc] at h; cases h
                | true =>
                  rw [hc] at h
                  simp only [cond_true, Option.some.injEq] at h
                  subst h
                  simp only [Bool.and_eq_true, beq_iff_eq] at hc
                  obtain ⟨rfl, hc2⟩ := hc
                  obtain ⟨r, hr⟩ := Option.isSome_iff_exists.1 hc2
                  cases hm1 with
                  | map _ _ g h1 =>
                    obtain ⟨g', h2, hone, entries, clock, h3, h4, h5⟩ := g1.blk b _ hl
                    rw [h1] at h2; cases h2
                    have hkd : ∃ kd, P.underlying kt = some kd := by
                      unfold plainKey at hp
                      cases hku : P.underlying kt with
                      | none => rw [hku] at hp; cases k <;> simp at hp
                      | some kd => exact ⟨kd, rfl⟩
                    obtain ⟨kd, hku⟩ := hkd
                    obtain ⟨q, hq, hres⟩ := aput_ok (P := P) hk1 hv1 hku hp clock (L := entries.toList) hr (by simpa using h4) (fun j h h' => by simpa using h5 j h (by simpa using h'))
                    have hck := run_checkKey (P := P) hk1 hp false w
                    have hget : (getObj g).run P w = .ok (.map entries clock) w := by simp [getObj, Sem.run, h3]
                    have hfk := run_findKey (P := P) hk1 hku (hq 0) w
                    have hsetrun : ∀ o', (setObj g o').run P w = .ok () { w with heap := w.heap.setIfInBounds g o' } := fun o' => by simp [setObj, Sem.run, h3]
                    cases r with
                    | none =>
                      obtain ⟨rfl, L', hL', e2, e3⟩ := hres
                      obtain ⟨a1, ev, good⟩ := good_obj (blk' := .map inc' (aput k v1 es)) g1 hl rfl h1 hone h3 (fun _ _ _ e => by cases e) (o' := .map (entries.push { key := K, val := V, born := clock }) (clock + 1)) (fun _ _ _ e => by cases e) rfl
                      refine ⟨_, ρ, ?_, ev1.trans ev, good ⟨g, h1, hone, _, _, a1, ?_, fun j hj hj' => ?_⟩⟩
                      · simp only [Instr.mapUpdate, Sem.run_bind, run_underlying hu, Result.andThen_ok, hget, hck, hfk, Option.map_none, hsetrun]
                      · rw [← e2, hL']; simp
                      · have hj2 : j < L'.length := by rw [hL']; simpa using hj'
                        have := e3 j hj hj2
                        subst hL'
                        have e : (entries.push { key := K, val := V, born := clock })[j] = (entries.toList ++ [{ key := K, val := V, born := clock }])[j] := by
                          have : (entries.push { key := K, val := V, born := clock }).toList = entries.toList ++ [{ key := K, val := V, born := clock }] := by simp
                          rw [← Array.getElem_toList]; congr 1
                        rw [e]
                        exact ⟨this.1.ev ev g1.res, this.2.ev ev g1.res⟩
                    | some y =>
                      obtain ⟨i, x, rfl, e0, e1', L', hL', e2, e3⟩ := hres
                      have hil : i < entries.size := by simpa using e0
                      have hbits : Instr.sameBits 10000 (((entries[i]?).map (·.key)).getD K) K = true := by
                        rw [Array.getElem?_eq_getElem hil]
                        have := e1' e0
                        rw [Array.getElem_toList] at this
                        exact sameBits_now this 10000
                      obtain ⟨a1, ev, good⟩ := good_obj (blk' := .map inc' (aput k v1 es)) g1 hl rfl h1 hone h3 (fun _ _ _ e => by cases e) (o' := .map (entries.modify i fun e => { e with key := K, val := V }) clock) (fun _ _ _ e => by cases e) rfl
                      refine ⟨_, ρ, ?_, ev1.trans ev, good ⟨g, h1, hone, _, _, a1, ?_, fun j hj hj' => ?_⟩⟩
                      · simp only [Instr.mapUpdate, Sem.run_bind, run_underlying hu, Result.andThen_ok, hget, hck, hfk, Option.map_some, Nat.zero_add, Instr.keyThatStays, hbits, if_true, Sem.run_pure, hsetrun]
                      · rw [← e2, hL']; simp
                      · have hj2 : j < L'.length := by rw [hL']; simpa using hj'
                        have := e3 j hj hj2
                        subst hL'
                        have e : (entries.modify i fun e => { e with key := K, val := V })[j] = (entries.toList.modify i fun e => { e with key := K, val := V })[j] := by
                          simp only [Array.getElem_modify, List.getElem_modify, Array.getElem_toList]
                        rw [e]
                        exact ⟨this.1.ev ev g1.res, this.2.ev ev g1.res⟩
          | _ => cases h
    | _ => cases h

theorem decodeL_eq (s : ByteArray) (i : Nat) : decodeL (s.data.toList.map UInt8.toNat) i = Utf8.decode s i := by
  have hget : ∀ k, (s.data.toList.map UInt8.toNat).getD k 0 = (s.get! k).toNat := fun k => by
    rw [List.getD_eq_getElem?_getD, List.getElem?_map, Array.getElem?_toList]
    show _ = (s.data[k]!).toNat
    by_cases h : k < s.data.size
    · rw [getElem!_pos (c := s.data) (i := k) (h := h), Array.getElem?_eq_getElem h]; rfl
    · rw [getElem!_neg (c := s.data) (i := k) (h := h), Array.getElem?_eq_none (by omega)]; rfl
  have hlen : ∀ k, Nat.blt k (s.data.toList.map UInt8.toNat).length = decide (k < s.size) := fun k => by
    have : (s.data.toList.map UInt8.toNat).length = s.size := by simp
    rw [this]
    cases hb : Nat.blt k s.size with
    | true => simp [show k < s.size by simpa using hb]
    | false => simp only [Nat.blt_eq, ← Bool.not_eq_true] at hb; simp [hb]
  unfold decodeL Utf8.decode
  simp only [hget, hlen]

theorem anext_ok {Res : Nat → Prop} {st st' : St} (hg : Good ρ Res T st w) {it v : AVal} {X : Value} {ty : TypeId} (h : anext it st = some (v, st')) (hx : Fit ρ (Rs ρ st.heap Res) T w it X) : Loud P ρ Res T st st' w (Instr.next X true ty) v := by
  unfold anext at h
  cases it with
  | iter b inc =>
    simp only at h
    cases hl : lkI b st.heap with
    | none => rw [hl] at h; cases h
    | some blk =>
      rw [hl] at h
      cases blk with
      | row => cases h
      | map => cases h
      | loop => cases h
      | iter inc' s pos =>
        simp only at h
        cases hc : (inc' == inc) with
        | false => rw [hc] at h; cases h
        | true =>
          rw [hc, cond_true] at h
          have hc' : inc' = inc := by simpa using hc
          subst hc'
          cases hx with
          | iter _ _ g h1 =>
            obtain ⟨g', h2, hone, sb, h3, h4⟩ := hg.blk b _ hl
            rw [h1] at h2; cases h2
            subst h4
            have hget : (getObj g).run P w = .ok (.stringIter sb pos) w := by simp [getObj, Sem.run, h3]
            have hlen : Nat.blt pos (sb.data.toList.map UInt8.toNat).length = decide (pos < sb.size) := by
              have : (sb.data.toList.map UInt8.toNat).length = sb.size := by simp
              rw [this]
              cases hb : Nat.blt pos sb.size with
              | true => simp [show pos < sb.size by simpa using hb]
              | false => simp only [Nat.blt_eq, ← Bool.not_eq_true] at hb; simp [hb]
            rw [hlen, decodeL_eq] at h
            by_cases hp : pos < sb.size
            · simp only [hp, decide_true, cond_true] at h
              generalize hd : Utf8.decode sb pos = cw at h
              obtain ⟨c, k⟩ := cw
              simp only [Option.some.injEq, Prod.mk.injEq] at h
              obtain ⟨rfl, rfl⟩ := h
              obtain ⟨a1, ev, good⟩ := good_obj (blk' := .iter inc' (sb.data.toList.map UInt8.toNat) (pos + k)) hg hl rfl h1 hone h3 (fun _ _ _ e => by cases e) (o' := .stringIter sb (pos + k)) (fun _ _ _ e => by cases e) rfl
              have hsetrun : (setObj g (.stringIter sb (pos + k))).run P w = .ok () { w with heap := w.heap.setIfInBounds g (.stringIter sb (pos + k)) } := by simp [setObj, Sem.run, h3]
              refine ⟨.tuple #[.bool true, goInt pos, .int .i32 c], _, ρ, ?_, ?_, ev, good ⟨g, h1, hone, sb, a1, rfl⟩⟩
              · simp only [Instr.next, Sem.run_bind, hget, Result.andThen_ok, hp, if_true, hd, hsetrun, Sem.run_pure]
              · refine .tuple _ _ (by simp) (fun j hj => ?_)
                simp only [List.length_cons, List.length_nil] at hj
                match j, hj with
                | 0, _ => exact .bool true
                | 1, _ => exact .int .i64 _
                | 2, _ => exact .int .i32 _
            · simp only [hp, decide_false, cond_false, Option.some.injEq, Prod.mk.injEq] at h
              obtain ⟨rfl, rfl⟩ := h
              refine ⟨.tuple #[.bool false], w, ρ, ?_, .tuple _ _ (by simp) (fun j hj => ?_), Ev.refl .., hg⟩
              · simp only [Instr.next, Sem.run_bind, hget, Result.andThen_ok, hp, if_false, Sem.run_pure]
              · simp only [List.length_cons, List.length_nil] at hj
                match j, hj with
                | 0, _ => exact .bool false
  | _ => cases h

end Go.Ax
