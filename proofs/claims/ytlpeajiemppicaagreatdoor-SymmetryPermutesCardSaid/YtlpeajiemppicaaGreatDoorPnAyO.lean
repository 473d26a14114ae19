/- Regions whose order is drawn: each operation, whenever it comes up. -/
import Derived.Test.YtlpeajiemppicaaGreatDoorPnAyN
namespace Go.Ax
set_option linter.unusedVariables false
set_option linter.unusedSimpArgs false
set_option linter.unusedSectionVars false
set_option linter.unnecessarySimpa false
variable {P : Program} {pol : Pol}

theorem sameAt_spec {rec : Task → Option Res} {cx : Cx} {ops : Array Oper} {x : DItem} {st : St} (h : sameAt rec pol cx P ops x st = true) : ∃ s, adraw1 rec pol cx P ops x.env st x.o = some (x.v, s, false) := by
  unfold sameAt at h
  split at h
  · rename_i v s hv
    rw [aveq_true _ h]
    exact ⟨s, hv⟩
  · cases h

theorem idEq_true : ∀ {a b : Id}, a.eq b = true → a = b
  | .v a, .v b, h => by have : a = b := by simpa [Id.eq] using h
                        rw [this]
  | .r a, .r b, h => by have : a = b := by simpa [Id.eq] using h
                        rw [this]
  | .v _, .r _, h => by cases h
  | .r _, .v _, h => by cases h

theorem esEq_true : ∀ {x y : List (AVal × AVal)}, esEq x y = true → x = y
  | [], [], _ => rfl
  | [], _ :: _, h => by cases h
  | _ :: _, [], h => by cases h
  | (a, b) :: r, (c, d) :: s, h => by
    simp only [esEq, Bool.and_eq_true] at h
    rw [aveq_true _ h.1.1, aveq_true _ h.1.2, esEq_true h.2]

theorem blkEq_true {x y : ABlk} (h : blkEq x y = true) : x = y := by
  unfold blkEq at h
  split at h
  · simp only [Bool.and_eq_true, beq_iff_eq] at h
    obtain ⟨⟨⟨⟨rfl, rfl⟩, rfl⟩, rfl⟩, h⟩ := h
    rw [listEqBy_true (fun a b => aveq_true _) h]
  · simp only [Bool.and_eq_true, beq_iff_eq] at h
    obtain ⟨rfl, h⟩ := h
    rw [esEq_true h]
  · simp only [Bool.and_eq_true, beq_iff_eq] at h
    obtain ⟨⟨rfl, h⟩, rfl⟩ := h
    rw [natsEq_true h]
  · cases h

theorem heapEq_true : ∀ {x y : Heap}, heapEq x y = true → x = y
  | [], [], _ => rfl
  | [], _ :: _, h => by cases h
  | _ :: _, [], h => by cases h
  | (a, x) :: r, (b, y) :: s, h => by
    simp only [heapEq, Bool.and_eq_true] at h
    rw [idEq_true h.1.1, blkEq_true h.1.2, heapEq_true h.2]

theorem stEq_true {a b : St} (h : stEq a b = true) : a = b := by
  obtain ⟨a1, a2, a3, a4⟩ := a
  obtain ⟨b1, b2, b3, b4⟩ := b
  simp only [stEq, Bool.and_eq_true, beq_iff_eq] at h
  obtain ⟨⟨⟨rfl, rfl⟩, rfl⟩, h⟩ := h
  rw [heapEq_true h]

theorem lackAll_spec {ops : Array Oper} {x : DItem} {f : List DVar → Bool} {listed : Array Bool} : ∀ {vars un : List DVar}, lackAll ops x f vars un = true →
    (∀ y ∈ vars, listed.getD y.i false = true → reach ops y.o x.i = false) → (∀ y ∈ vars, listed.getD y.i false = false → reach ops x.o y.i = false) →
    f (un ++ vars.filter fun y => !listed.getD y.i false) = true
  | [], un, h, _, _ => by simpa [lackAll] using h
  | y :: r, un, h, h1, h2 => by
    simp only [lackAll, Bool.and_eq_true, Bool.or_eq_true] at h
    cases hl : listed.getD y.i false with
    | true =>
      rcases h.1 with h3 | h3
      · rw [h1 y (by simp) hl] at h3; cases h3
      · have := lackAll_spec h3 (fun z hz => h1 z (by simp [hz])) (fun z hz => h2 z (by simp [hz]))
        rw [List.filter_cons_of_neg (p := fun y : DVar => !listed.getD y.i false) (by rw [hl]; simp)]
        exact this
    | false =>
      rcases h.2 with h3 | h3
      · rw [h2 y (by simp) hl] at h3; cases h3
      · have := lackAll_spec h3 (fun z hz => h1 z (by simp [hz])) (fun z hz => h2 z (by simp [hz]))
        rw [List.filter_cons_of_pos (p := fun y : DVar => !listed.getD y.i false) (by rw [hl]; rfl)]
        rw [List.append_assoc, List.singleton_append] at this
        exact this

theorem lackOf_nil (cx : Cx) (st : St) : lackOf cx [] st = st := rfl

section
variable {rec : Task → Option Res} (hP : Sane pol P) (hr : RecCall P pol rec) (hc : RecCode P pol rec) {cx : Cx} {ops : Array Oper} {env env' : Env} {st st' stA : St} {c0 : Nat} {vars : List DVar} {items : List DItem} {Res T : Nat → Prop}
  {ρ0 : Loc} {w0 : World} {a0 : Act}
  (hvars : vars = dvars P 0 ops.toList) (hc0 : c0 = st.clock)
  (F : SeqF rec pol cx P ops c0 vars 0 none stA ops.toList env items env' st')
  (hap : ∀ x ∈ items, ∀ y ∈ items, apartOk ops x y = true)
  (hquiet : (items.any (·.loud) || !vars.isEmpty) = true → ∀ x ∈ items, quietOk rec pol cx P ops items vars stA x = true)
  (hgl : GlobOk pol ρ0 (Rs ρ0 st.heap Res) T w0) (hres : ∀ g, Res g → g < w0.heap.size) (r : Option Nat) (Q : Exit → Act → World → Prop)
include hP hr hc hvars hc0 F hap hquiet hgl hres

theorem draw_op {listed : Array Bool} {a : Act} {w : World} {ρ : Loc} {sc : St} (h : DInv cx c0 vars items ops env stA Res T ρ0 st w0 a0 listed a w ρ sc) {i : Nat} (hready : i ∈ Region.ready .any ops listed)
    {K : Act → World → Prop} (hK : ∀ a2 w2 ρ2 sc2, DInv cx c0 vars items ops env stA Res T ρ0 st w0 a0 (listed.setIfInBounds i true) a2 w2 ρ2 sc2 → K a2 w2) : wpOpIn (Fr r) 0 P ops Q i K a w := by
  obtain ⟨hunt, o, ho, hall⟩ := mem_ready.1 hready
  have hi : i < ops.size := (Array.getElem?_eq_some_iff.1 ho).1
  have hi' : i < listed.size := by rw [h.size]; exact hi
  have hun : ¬ Lst listed i := fun hl => by
    have : listed.getD i true = listed.getD i false := by simp [hi']
    rw [hl, hunt] at this; cases this
  have hlen : items.length = ops.size := by rw [F.len]; simp
  obtain ⟨x, hx⟩ : ∃ x, items[i]? = some x := ⟨items[i]'(by omega), List.getElem?_eq_getElem _⟩
  have hidx : ∀ (j : Nat) (x : DItem), items[j]? = some x → x.i = j := fun j x hj => by have := (F.idx j x hj).1; omega
  have hmem : ∀ {j : Nat} {z : DItem}, items[j]? = some z → z ∈ items := fun hz => List.mem_of_getElem? hz
  have hxo : x.o = o := by
    have := (F.idx i x hx).2
    rw [Array.getElem?_toList, ho] at this
    exact (Option.some.inj this).symm
  subst hxo
  have hpre : ∀ e ∈ x.o.after, Region.binds .any e = true → Lst listed e.on := hall
  have hops : ∀ (j : Nat) (o : Oper), ops[j]? = some o → ∃ z, items[j]? = some z ∧ z.o = o := fun j o hj => by
    have hjl : j < items.length := by rw [hlen]; exact (Array.getElem?_eq_some_iff.1 hj).1
    have hz : items[j]? = some items[j] := List.getElem?_eq_getElem _
    have h3 := (F.idx j _ hz).2
    rw [Array.getElem?_toList, hj] at h3
    exact ⟨_, hz, (Option.some.inj h3).symm⟩
  have hpreE : ∀ j, reach ops x.o j = true → Lst listed j := fun j hj => reachN_listed hops h.down 5 hpre hj
  have hnotE : ∀ j z, items[j]? = some z → Lst listed j → reach ops z.o i = false := fun j z hz hl => by
    cases he : reach ops z.o i with
    | false => rfl
    | true => exact absurd (reachN_listed hops h.down 5 (h.down j z hz hl) he) hun
  have hdst : ∀ d, x.o.dst = some d → d < cx.nt := fun d hd => F.dst i x d hx hd
  have hE := h.envOk hidx hap hops hx hun hpre (fun t u ht => F.env1 i x t u hx ht)
  have hglc : GlobOk pol ρ (Rs ρ sc.heap Res) T w := hgl.ev h.ev hres
  have hvarsAt : ∀ y ∈ vars, ∃ z, items[y.i]? = some z ∧ dvar P y.i z.o = some y ∧ z.o = y.o := fun y hy => by
    rw [hvars] at hy
    obtain ⟨j, o', h1, h2⟩ := mem_dvars.1 hy
    have hj := (dvar_spec h2).1
    have hj' : y.i = j := by omega
    have hjl : j < items.length := by rw [F.len]; exact (List.getElem?_eq_some_iff.1 h1).1
    have hz : items[j]? = some items[j] := List.getElem?_eq_getElem _
    have h3 := (F.idx j _ hz).2
    rw [h1] at h3
    have h4 : items[j].o = o' := (Option.some.inj h3).symm
    exact ⟨items[j], by rw [hj']; exact hz, by rw [h4, hj', ← h2]; congr 1; omega, by rw [h4]; exact (dvar_spec h2).2.1.symm⟩
  have hwant : ∀ t, awanted ops (pickE (x.o.looksAt ops) x.env) x.o = some t → Region.wanted x.o (yielded ops a.tmps) = t := fun t ht => awanted_ok ht hE
  unfold wpOpIn
  rw [ho]
  simp only
  have hval := F.val i x hx
  rw [Nat.zero_add] at hval
  rcases hval with ⟨y, hdv, hxv, hxl⟩ | ⟨hdv, hone⟩
  · -- a variable is laid
    obtain ⟨hyi, hyo, hguard, hyd, elem, z, hop, hzt, hcells⟩ := dvar_spec hdv
    have hyv : y ∈ vars := by rw [hvars]; exact mem_dvars.2 ⟨i, x.o, by simpa using ho, by rw [Nat.zero_add]; exact hdv⟩
    obtain ⟨p3, base, p2, pr, pc, pm⟩ := h.phase
    have hw : Region.wanted x.o (yielded ops a.tmps) = true := by simp [Region.wanted, hguard]
    simp only [hw, if_true]
    obtain ⟨zv, z1, z2⟩ := run_zero hzt w
    have hzf := ofVal_ok ρ (Rs ρ sc.heap Res) T w 4 zv z z2
    have hclk : c0 + ops.size ≤ sc.clock := by rw [p2]; exact pc
    obtain ⟨ev, good, fit⟩ := good_var h.good (.v (cx.base + y.d)) (k := c0 + i) (by omega) (p3 y hyv (by rw [hyi]; exact hun) |> fun hh => by rw [hyi] at hh; exact hh) elem hzf
    have hinj : ∀ u ∈ vars, u.id cx = y.id cx → u = y := fun u hu e => by
      obtain ⟨zu, hzu, hdu, _⟩ := hvarsAt u hu
      by_cases hne : u.i = i
      · rw [hne, hx] at hzu
        cases hzu
        rw [hne, hdv] at hdu
        exact (Option.some.inj hdu).symm
      · exfalso
        have hd1 := (dvar_spec hdu).2.2.2.1
        have hde : u.d = y.d := by simpa using e
        exact (apart_dst (hap zu (hmem hzu) x (hmem hx)) (by rw [hidx _ _ hzu, hidx _ _ hx]; exact hne) hd1).1 (by rw [hyd, hde])
    have hext : ∀ b, lkI b (lackOf cx (vars.filter fun x => !(listed.setIfInBounds i true).getD x.i false) base).heap = lkI b (upI (.v (cx.base + y.d)) (.row (c0 + i) (c0 + i) z.cellsOf.length false z.cellsOf) sc.heap) := fun b => by
      rw [lkI_upI, p2]
      simp only [lackOf, lkI_kill]
      by_cases hb : Id.v (cx.base + y.d) = b
      · have hnm : b ∉ (vars.filter fun x => !(listed.setIfInBounds i true).getD x.i false).map fun y => Id.v (cx.base + y.d) := fun hm => by
          obtain ⟨u, hu, hub⟩ := List.mem_map.1 hm
          obtain ⟨hu1, hu2⟩ := List.mem_filter.1 hu
          have := hinj u hu1 (hub.trans hb.symm)
          subst this
          rw [hyi] at hu2
          have : (listed.setIfInBounds i true).getD i false = true := (lst_set hi' i).2 (.inl rfl)
          rw [this] at hu2; cases hu2
        rw [if_neg hnm, if_pos hb, ← hb]
        rw [show lkI (Id.v (cx.base + y.d)) base.heap = some (y.row c0) from pr y hyv (by rw [hyi]; exact hun)]
        simp [DVar.row, hyi, hcells]
      · have hiff : (b ∈ (vars.filter fun x => !(listed.setIfInBounds i true).getD x.i false).map fun y => Id.v (cx.base + y.d)) ↔ (b ∈ (vars.filter fun x => !listed.getD x.i false).map fun y => Id.v (cx.base + y.d)) := by
          simp only [List.mem_map, List.mem_filter]
          constructor
          · rintro ⟨u, ⟨hu1, hu2⟩, hub⟩
            refine ⟨u, ⟨hu1, ?_⟩, hub⟩
            cases hl : listed.getD u.i false with
            | false => rfl
            | true =>
              have : (listed.setIfInBounds i true).getD u.i false = true := (lst_set hi' _).2 (.inr hl)
              rw [this] at hu2; cases hu2
          · rintro ⟨u, ⟨hu1, hu2⟩, hub⟩
            refine ⟨u, ⟨hu1, ?_⟩, hub⟩
            cases hl : (listed.setIfInBounds i true).getD u.i false with
            | false => rfl
            | true =>
              rcases (lst_set hi' _).1 hl with h5 | h5
              · have : u = y := by
                  obtain ⟨zu, hzu, hdu, _⟩ := hvarsAt u hu1
                  rw [h5, hx] at hzu
                  cases hzu
                  rw [h5, hdv] at hdu
                  exact (Option.some.inj hdu).symm
                subst this
                exact absurd hub hb
              · rw [Lst] at h5; rw [h5] at hu2; cases hu2
        rw [if_neg hb]
        simp only [hiff]
    have hclk2 : (lackOf cx (vars.filter fun x => !(listed.setIfInBounds i true).getD x.i false) base).clock = sc.clock := by rw [p2]; rfl
    have good2 : Good (bind2 ρ (c0 + i) (c0 + i) w.heap.size) Res T (lackOf cx (vars.filter fun x => !(listed.setIfInBounds i true).getD x.i false) base) _ := good.ext hclk2 hext
    have ev2 : EvW ρ (bind2 ρ (c0 + i) (c0 + i) w.heap.size) sc (lackOf cx (vars.filter fun x => !(listed.setIfInBounds i true).getD x.i false) base) w _ := ev.ext_right hclk2 hext
    refine wpIn_value (x := .pointer (some ⟨w.heap.size, 0, none⟩)) (fun d e => by rw [hop] at e; cases e) (w' := { w with heap := w.heap.push (.cells zv.cells elem) }) ?_ (.inl rfl) (hK _ _ _ _ (h.advance hidx hap hx hi hpre hdst good2 ⟨h.ev.toEvW.trans ev2, fun k hk hn v => by rw [bind2_other (by omega)]; exact h.ev.old k hk hn v⟩ (fun v u hf => hf.evw ev2 h.good.res) ?_ ?_))
    · simp only [execOp, hop]
      apply run_v
      simp only [Instr.alloc, Sem.run_bind, z1, Result.andThen_ok]
      simp [newVar, Go.newRow]
    · rw [hxv]
      have : Rs (bind2 ρ (c0 + i) (c0 + i) w.heap.size) (lackOf cx (vars.filter fun x => !(listed.setIfInBounds i true).getD x.i false) base).heap Res = _ := Rs.ext hext
      rw [this]; exact fit
    · refine ⟨fun u hu hn v => ?_, base, rfl, fun u hu hn => pr u hu (fun hl => hn ((lst_set hi' _).2 (.inr hl))), pc, ?_⟩
      · have hne : u.i ≠ i := fun e => hn ((lst_set hi' _).2 (.inl e))
        rw [bind2_other (by omega)]
        exact p3 u hu (fun hl => hn ((lst_set hi' _).2 (.inr hl))) v
      · have hne : ∀ j z, items[j]? = some z → z.loud = true → j ≠ i := fun j z hz hl e => by
          subst e; rw [hx] at hz; cases hz; rw [hxl] at hl; cases hl
        rcases pm with ⟨p1, p4⟩ | ⟨y2, k, q1, q2, q3, q4⟩
        · refine .inl ⟨fun j z hz hl => ?_, p4⟩
          rw [lst_set hi']
          rintro (e | e)
          · exact hne j z hz hl e
          · exact p1 j z hz hl e
        · exact .inr ⟨y2, k, q1, q2, q3, fun j z hz hl => by rw [lst_set hi', ← q4 j z hz hl]; simp [hne j z hz hl]⟩
  · have hnv : ∀ y ∈ vars, y.i ≠ i := fun y hy e => by
      obtain ⟨z, hz, hd, _⟩ := hvarsAt y hy
      rw [e, hx] at hz
      cases hz
      rw [e, hdv] at hd
      cases hd
    cases hxl : x.loud with
    | false =>
      have hsame : ∃ s, adraw1 rec pol cx P ops x.env sc x.o = some (x.v, s, false) := by
        cases hchk : (items.any (·.loud) || !vars.isEmpty) with
        | false =>
          simp only [Bool.or_eq_false_iff, Bool.not_eq_false'] at hchk
          have hnl : ∀ (j : Nat) (z : DItem), items[j]? = some z → z.loud = false := fun j z hz => by
            have := List.any_eq_false.1 hchk.1 z (hmem hz)
            simpa using this
          have hv0 : vars = [] := by simpa using hchk.2
          obtain ⟨p3, base, p2, pr, pc, pm⟩ := h.phase
          rcases pm with ⟨p1, p4⟩ | ⟨y2, k, q1, q2, q3, q4⟩
          · have hl0 : lastL none items i = none := by
              cases hl : lastL none items i with
              | none => rfl
              | some y =>
                rcases lastL_some hl with ⟨h1, _⟩ | ⟨h1, k, _, h3, _⟩
                · cases h1
                · rw [hnl k y h3] at h1; cases h1
            rw [hl0] at hone
            have : sc = stA := by rw [p2, hv0, p4]; rfl
            rw [this]
            rw [hxl] at hone
            exact ⟨_, hone⟩
          · rw [hnl k y2 q1] at q2; cases q2
        | true =>
          have hq := hquiet hchk x (hmem hx)
          unfold quietOk at hq
          rw [hidx i x hx, hdv, hxl] at hq
          simp only [Option.isSome_none, Bool.or_self, Bool.false_or, Bool.and_eq_true, Bool.or_eq_true, Bool.not_eq_true', List.all_eq_true] at hq
          obtain ⟨p3, base, p2, pr, pc, pm⟩ := h.phase
          have lk1 : ∀ y ∈ vars, listed.getD y.i false = true → reach ops y.o x.i = false := fun y hy hl => by
            obtain ⟨z, hz, _, hzo⟩ := hvarsAt y hy
            rw [← hzo, hidx i x hx]; exact hnotE _ z hz hl
          have lk2 : ∀ y ∈ vars, listed.getD y.i false = false → reach ops x.o y.i = false := fun y hy hl => by
            cases he : reach ops x.o y.i with
            | false => rfl
            | true => have := hpreE _ he; rw [Lst, hl] at this; cases this
          rcases pm with ⟨p1, p4⟩ | ⟨y2, k, q1, q2, q3, q4⟩
          · rcases hq.1 with h0 | h0
            · exfalso
              have : couldBe ops items x 0 = true := by
                unfold couldBe
                rw [List.all_eq_true]
                intro z hz
                obtain ⟨j, hj⟩ := List.mem_iff_getElem?.1 hz
                cases hzl : z.loud with
                | false => rfl
                | true =>
                  have hb : Nat.blt z.i 0 = false := by cases hbb : Nat.blt z.i 0 with
                    | false => rfl
                    | true => have : z.i < 0 := by simpa using hbb
                              omega
                  rw [hb]
                  simp only [Bool.not_true, Bool.false_or, cond_false, Bool.not_eq_true']
                  cases he : reach ops x.o z.i with
                  | false => rfl
                  | true => rw [hidx j z hj] at he; exact absurd (hpreE _ he) (p1 j z hj hzl)
              rw [this] at h0; cases h0
            · have := lackAll_spec (listed := listed) h0 lk1 lk2
              rw [List.nil_append] at this
              rw [p2, p4]
              exact sameAt_spec this
          · rcases hq.2 y2 (hmem q1) with h0 | h0 | h0
            · rw [q2] at h0; cases h0
            · exfalso
              have : couldBe ops items x (y2.i + 1) = true := by
                unfold couldBe
                rw [List.all_eq_true]
                intro z hz
                obtain ⟨j, hj⟩ := List.mem_iff_getElem?.1 hz
                cases hzl : z.loud with
                | false => rfl
                | true =>
                  rw [hidx j z hj, hidx k y2 q1, hidx i x hx]
                  simp only [Bool.not_true, Bool.false_or]
                  cases hbb : Nat.blt j (k + 1) with
                  | true =>
                    have : j < k + 1 := by simpa using hbb
                    rw [cond_true, hnotE j z hj ((q4 j z hj hzl).2 (by omega))]; rfl
                  | false =>
                    rw [cond_false]
                    cases he : reach ops x.o j with
                    | false => rfl
                    | true =>
                      have hh := (q4 j z hj hzl).1 (hpreE _ he)
                      have : Nat.blt j (k + 1) = true := by simp; omega
                      rw [this] at hbb; cases hbb
              rw [this] at h0; cases h0
            · have := lackAll_spec (listed := listed) h0 lk1 lk2
              rw [List.nil_append] at this
              rw [p2, q3]
              exact sameAt_spec this
      obtain ⟨s, hs⟩ := hsame
      have ph := fun {ρ2 : Loc} (hρ : ρ2 = ρ) => (hρ ▸ h.phase.quiet hx hxl hnv hi' : Phase cx c0 ops.size vars items stA (listed.setIfInBounds i true) ρ2 sc)
      unfold adraw1 at hs
      cases hw : awanted ops (pickE (x.o.looksAt ops) x.env) x.o with
      | none => rw [hw] at hs; cases hs
      | some t =>
        rw [hw] at hs
        rw [hwant t hw]
        cases t with
        | false =>
          simp only [Option.some.injEq, Prod.mk.injEq] at hs
          simp only [Bool.false_eq_true, if_false]
          refine ⟨fun _ _ => trivial, hK _ _ _ _ (h.advance hidx hap hx hi hpre hdst h.good h.ev (fun _ _ hf => hf) ?_ (ph rfl))⟩
          rw [← hs.1]; exact fit_undef
        | true =>
          simp only at hs
          simp only [if_true]
          have hstill := (aoper_ok (next := fun _ _ => True) (Q := fun _ _ _ => True) hP hr hc h.good hE hglc hs r (fun _ _ _ _ _ _ _ => trivial)).1 rfl
          subst hstill
          refine (aoper_ok hP hr hc h.good hE hglc hs r (fun X w2 ρ2 k0 k1 k2 k3 => ?_)).2
          exact hK _ _ _ _ (h.advance hidx hap hx hi hpre hdst k3 (h.ev.trans k2) (fun v u hf => hf.ev k2 h.good.res) k1 (ph (k0 rfl)))
    | true =>
      have hch := F.chain i x hx hxl
      rw [hxl] at hone
      obtain ⟨p3, base, p2, pr, pc, pm⟩ := h.phase
      have lk1 : ∀ y ∈ vars, listed.getD y.i false = true → reach ops y.o x.i = false := fun y hy hl => by
        obtain ⟨z, hz, _, hzo⟩ := hvarsAt y hy
        rw [← hzo, hidx i x hx]; exact hnotE _ z hz hl
      have lk2 : ∀ y ∈ vars, listed.getD y.i false = false → reach ops x.o y.i = false := fun y hy hl => by
        cases he : reach ops x.o y.i with
        | false => rfl
        | true => have := hpreE _ he; rw [Lst, hl] at this; cases this
      have hst : stOf stA (lastL none items i) = base ∧ ∀ j z, items[j]? = some z → z.loud = true → (Lst (listed.setIfInBounds i true) j ↔ j ≤ i) := by
        rcases pm with ⟨p1, p4⟩ | ⟨y2, k, q1, q2, q3, q4⟩
        · cases hl : lastL none items i with
          | some y =>
            exfalso
            rcases lastL_some hl with ⟨h1, _⟩ | ⟨h1, k, _, h3, _⟩
            · cases h1
            · have := hpreE _ (hch.2 y hl)
              rw [hidx k y h3] at this
              exact p1 k y h3 h1 this
          | none =>
            have hn := (lastL_none hl).2
            refine ⟨p4.symm, fun j z hz hzl => ?_⟩
            rw [lst_set hi']
            constructor
            · rintro (e | e)
              · omega
              · exact absurd e (p1 j z hz hzl)
            · intro hji
              rcases Nat.lt_or_ge j i with hlt | hge
              · rw [hn j z hlt hz] at hzl; cases hzl
              · left; omega
        · have hki : k < i := by
            rcases Nat.lt_or_ge k i with h5 | h5
            · exact h5
            · exact absurd ((q4 i x hx hxl).2 h5) hun
          cases hl : lastL none items i with
          | none =>
            have := (lastL_none hl).2 k y2 hki q1
            rw [q2] at this; cases this
          | some y =>
            rcases lastL_some hl with ⟨h1, _⟩ | ⟨h1, k2, h2, h3, h4⟩
            · cases h1
            · have hkk : k ≤ k2 := by
                rcases Nat.lt_or_ge k2 k with h5 | h5
                · have := h4 k y2 h5 hki q1
                  rw [q2] at this; cases this
                · exact h5
              have := hpreE _ (hch.2 y hl)
              rw [hidx k2 y h3] at this
              have hk2 := (q4 k2 y h3 h1).1 this
              have : k2 = k := by omega
              subst this
              rw [q1] at h3; cases h3
              refine ⟨q3.symm, fun j z hz hzl => ?_⟩
              rw [lst_set hi', q4 j z hz hzl]
              constructor
              · rintro (e | e) <;> omega
              · intro hji
                rcases Nat.lt_or_ge k2 j with h5 | h5
                · rcases Nat.lt_or_ge j i with h6 | h6
                  · have := h4 j z h5 h6 hz
                    rw [hzl] at this; cases this
                  · left; omega
                · right; omega
      have hlo := hch.1
      rw [hst.1] at hone hlo
      simp only [loudOk, Bool.and_eq_true] at hlo
      have hone : adraw1 rec pol cx P ops x.env sc x.o = some (x.v, lackOf cx (vars.filter fun x => !listed.getD x.i false) x.st', true) := by
        have h6 := lackAll_spec (listed := listed) hlo.2 lk1 lk2
        rw [List.nil_append] at h6
        rw [p2]
        cases hf : (vars.filter fun x => !listed.getD x.i false) with
        | nil => exact hone
        | cons y r =>
          rw [hf] at h6
          simp only [loudAt] at h6
          split at h6
          · rename_i v s hv
            simp only [Bool.and_eq_true] at h6
            rw [hv, aveq_true _ h6.1, stEq_true h6.2]
          · cases h6
      unfold adraw1 at hone
      cases hw : awanted ops (pickE (x.o.looksAt ops) x.env) x.o with
      | none => rw [hw] at hone; cases hone
      | some t =>
        rw [hw] at hone
        rw [hwant t hw]
        cases t with
        | false => simp at hone
        | true =>
          simp only at hone
          simp only [if_true]
          refine (aoper_ok hP hr hc h.good hE hglc hone r (fun X w2 ρ2 k0 k1 k2 k3 => ?_)).2
          refine hK _ _ _ _ (h.advance hidx hap hx hi hpre hdst k3 (h.ev.trans k2) (fun v u hf => hf.ev k2 h.good.res) k1 ⟨fun u hu hn v => ?_, x.st', by rw [filter_set hnv], fun u hu hn => ?_, ?_, .inr ⟨x, i, hx, hxl, rfl, hst.2⟩⟩)
          · have hun' : ¬ Lst listed u.i := fun hl => hn ((lst_set hi' _).2 (.inr hl))
            refine k2.old _ ?_ (p3 u hu hun') v
            obtain ⟨zu, hzu, _⟩ := hvarsAt u hu
            have : u.i < ops.size := by rw [← hlen]; exact (List.getElem?_eq_some_iff.1 hzu).1
            have h7 : sc.clock = base.clock := by rw [p2]; rfl
            omega
          · have hun' : ¬ Lst listed u.i := fun hl => hn ((lst_set hi' _).2 (.inr hl))
            have h8 := List.all_eq_true.1 hlo.1 u hu
            rw [lk2 u hu (by cases hl : listed.getD u.i false with
              | false => rfl
              | true => exact absurd hl hun'), Bool.false_or] at h8
            unfold rowIs at h8
            split at h8
            · rename_i kk hkk
              rw [hkk, blkEq_true h8]
            · cases h8
          · have h7 : sc.clock = base.clock := by rw [p2]; rfl
            have h9 : sc.clock ≤ x.st'.clock := k2.clock
            omega

theorem draw_end {listed : Array Bool} {a : Act} {w : World} {ρ : Loc} {sc : St} (h : DInv cx c0 vars items ops env stA Res T ρ0 st w0 a0 listed a w ρ sc) (hall : ∀ j, j < ops.size → Lst listed j) : CodeR cx ρ0 Res T st w0 a0 .norm env' st' .normal a w := by
  have hlen : items.length = ops.size := by rw [F.len]; simp
  have hL : ∀ (j : Nat) (z : DItem), items[j]? = some z → Lst listed j := fun j z hz => hall j (by rw [← hlen]; exact (List.getElem?_eq_some_iff.1 hz).1)
  have hsc : st' = sc := by
    obtain ⟨p3, base, p2, pr, pc, pm⟩ := h.phase
    have hf : (vars.filter fun x => !listed.getD x.i false) = [] := List.filter_eq_nil_iff.2 fun y hy => by
      rw [hvars] at hy
      obtain ⟨j, o', h1, h2⟩ := mem_dvars.1 hy
      have hj := (dvar_spec h2).1
      have hjl : j < ops.size := by simpa using (List.getElem?_eq_some_iff.1 h1).1
      have : listed.getD y.i false = true := hall y.i (by omega)
      rw [this]; simp
    rw [hf, lackOf_nil] at p2
    rw [F.last, p2]
    rcases pm with ⟨p1, p4⟩ | ⟨y2, k, q1, q2, q3, q4⟩
    · cases hl : lastL none items items.length with
      | some y =>
        exfalso
        rcases lastL_some hl with ⟨h1, _⟩ | ⟨h1, k, _, h3, _⟩
        · cases h1
        · exact p1 k y h3 h1 (hL k y h3)
      | none => exact p4.symm
    · have hk : k < items.length := (List.getElem?_eq_some_iff.1 q1).1
      cases hl : lastL none items items.length with
      | none =>
        have := (lastL_none hl).2 k y2 hk q1
        rw [q2] at this; cases this
      | some y =>
        rcases lastL_some hl with ⟨h1, _⟩ | ⟨h1, k2, h2, h3, h4⟩
        · cases h1
        · have hk2 := (q4 k2 y h3 h1).1 (hL k2 y h3)
          have hkk : k ≤ k2 := by
            rcases Nat.lt_or_ge k2 k with h5 | h5
            · have := h4 k y2 h5 hk q1
              rw [q2] at this; cases this
            · exact h5
          have : k2 = k := by omega
          subst this
          rw [q1] at h3; cases h3
          exact q3.symm
  subst hsc
  refine ⟨rfl, ρ, [], fun t u ht => ?_, h.tmps, h.ev, h.good, h.defers, .nil ..⟩
  rcases F.env2 t u ht with ⟨k, z, h1, h2, rfl⟩ | ⟨h1, h2⟩
  · exact h.wrote k z t h1 (hL k z h1) h2
  · exact h.kept t u h1 fun j z hz _ => h2 j z hz

theorem draw_loop (hQ : ∀ e a w, CodeR cx ρ0 Res T st w0 a0 .norm env' st' e a w → Q e a w) : ∀ (fuel : Nat) {listed : Array Bool} {a : Act} {w : World} {ρ : Loc} {sc : St}, DInv cx c0 vars items ops env stA Res T ρ0 st w0 a0 listed a w ρ sc →
    listed.toList.count false ≤ fuel → wpAnyIn (Fr r) 0 P .any ops Q fuel listed a w := by
  intro fuel
  have hlen : items.length = ops.size := by rw [F.len]; simp
  have hnone : ∀ {listed : Array Bool} {a : Act} {w : World} {ρ : Loc} {sc : St}, DInv cx c0 vars items ops env stA Res T ρ0 st w0 a0 listed a w ρ sc → Region.ready .any ops listed = [] → ∀ j, j < ops.size → Lst listed j := by
    intro listed a w ρ sc h hnil j
    induction j using Nat.strongRecOn with
    | _ j ih =>
      intro hj
      have hjl : j < items.length := by omega
      have hz : items[j]? = some items[j] := List.getElem?_eq_getElem _
      cases hl : listed.getD j false with
      | true => exact hl
      | false =>
        exfalso
        have : j ∈ Region.ready .any ops listed := mem_ready.2 ⟨by
          have hjs : j < listed.size := by rw [h.size]; exact hj
          have : listed.getD j true = listed.getD j false := by simp [hjs]
          rw [this]; exact hl, items[j].o, by have := (F.idx j _ hz).2; rwa [Array.getElem?_toList] at this, fun e he hb => by
            have hlt := F.back j _ hz e he hb
            exact ih e.on (by omega) (by omega)⟩
        rw [hnil] at this; cases this
  induction fuel with
  | zero =>
    intro listed a w ρ sc h hcnt
    have h0 : listed.toList.count false = 0 := by omega
    have hall : ∀ j, j < ops.size → Lst listed j := fun j hj => by
      have hjs : j < listed.size := by rw [h.size]; exact hj
      cases hl : listed.getD j false with
      | true => exact hl
      | false =>
        exfalso
        have hm : false ∈ listed.toList := by
          have e : listed[j] = false := by simpa [hjs] using hl
          rw [← e]
          exact Array.getElem_mem_toList hjs
        have := List.count_pos_iff.2 hm
        omega
    refine ⟨?_, hQ _ _ _ (draw_end hP hr hc hvars hc0 F hap hquiet hgl hres h hall)⟩
    cases hrd : Region.ready .any ops listed with
    | nil => rfl
    | cons i rs =>
      exfalso
      have hi : i ∈ Region.ready .any ops listed := by rw [hrd]; simp
      obtain ⟨h1, o, h2, _⟩ := mem_ready.1 hi
      have hio : i < ops.size := (Array.getElem?_eq_some_iff.1 h2).1
      have hjs : i < listed.size := by rw [h.size]; exact hio
      have : listed.getD i true = listed.getD i false := by simp [hjs]
      rw [h1, hall i hio] at this
      cases this
  | succ fuel ih =>
    intro listed a w ρ sc h hcnt
    refine ⟨fun hnil => hQ _ _ _ (draw_end hP hr hc hvars hc0 F hap hquiet hgl hres h (hnone h hnil)), fun i hi => ?_⟩
    refine draw_op hP hr hc hvars hc0 F hap hquiet hgl hres r Q h hi fun a2 w2 ρ2 sc2 h2 => ih h2 ?_
    obtain ⟨h1, o, h3, _⟩ := mem_ready.1 hi
    have hio : i < ops.size := (Array.getElem?_eq_some_iff.1 h3).1
    have hjs : i < listed.size := by rw [h.size]; exact hio
    have e : listed.toList[i]'(by simpa using hjs) = false := by
      have : listed.getD i true = listed[i] := by simp [hjs]
      rw [Array.getElem_toList, ← this]; exact h1
    have hpos : 0 < listed.toList.count false := List.count_pos_iff.2 (by rw [← e]; exact List.getElem_mem _)
    rw [Array.toList_setIfInBounds, List.count_set (by simpa using hjs), e]
    simp only [BEq.rfl, if_true]
    have : (true == false) = false := rfl
    simp only [this, Bool.false_eq_true, if_false]
    omega
end

theorem adraw_ok {rec : Task → Option Res} (hP : Sane pol P) (hr : RecCall P pol rec) (hc : RecCode P pol rec) (hm : P.follows .mixedOrders = true) {cx : Cx} {ops : Array Oper} {env env' : Env} {st st' : St} (h : adraw rec pol cx P ops env st = some (env', st'))
    {Res T : Nat → Prop} {ρ : Loc} {w : World} {a : Act} (hg : Good ρ Res T st w) (hgl : GlobOk pol ρ (Rs ρ st.heap Res) T w) (he : EnvOk ρ (Rs ρ st.heap Res) T w env a.tmps) (hs : a.tmps.size = cx.nt) (r : Option Nat) (id : Nat) :
    (Code.region id ops true).wpIn (Fr r) 0 P (CodeR cx ρ Res T st w a .norm env' st') a w := by
  unfold adraw at h
  simp only at h
  cases hsq : adrawSeq rec pol cx P ops st.clock (dvars P 0 ops.toList) 0 none ops.toList env { st with clock := st.clock + ops.size, heap := layVars cx st.clock (dvars P 0 ops.toList) st.heap } with
  | none => rw [hsq] at h; cases h
  | some p =>
    obtain ⟨items, env1, st1⟩ := p
    rw [hsq] at h
    simp only at h
    cases hap : (items.all fun x => items.all fun y => apartOk ops x y) with
    | false => rw [hap] at h; cases h
    | true =>
      rw [hap, cond_true] at h
      have F := seq_facts (st0 := { st with clock := st.clock + ops.size, heap := layVars cx st.clock (dvars P 0 ops.toList) st.heap }) none hsq rfl rfl
      have hres : (items.any (·.loud) || !(dvars P 0 ops.toList).isEmpty) = true → (items.all fun x => quietOk rec pol cx P ops items (dvars P 0 ops.toList) { st with clock := st.clock + ops.size, heap := layVars cx st.clock (dvars P 0 ops.toList) st.heap } x) = true := fun hh => by
        rw [hh, cond_true] at h
        cases hq : (items.all fun x => quietOk rec pol cx P ops items (dvars P 0 ops.toList) { st with clock := st.clock + ops.size, heap := layVars cx st.clock (dvars P 0 ops.toList) st.heap } x) with
        | true => rfl
        | false => rw [hq] at h; cases h
      have hfin : env1 = env' ∧ st1 = st' := by
        cases hh : (items.any (·.loud) || !(dvars P 0 ops.toList).isEmpty) with
        | false =>
          rw [hh] at h
          simp only [cond_false, Option.some.injEq, Prod.mk.injEq] at h
          exact h
        | true =>
          rw [hh, cond_true, hres hh] at h
          simp only [cond_true, Option.some.injEq, Prod.mk.injEq] at h
          exact h
      obtain ⟨rfl, rfl⟩ := hfin
      refine wpIn_region_any hm ?_
      obtain ⟨ev0, good0⟩ := good_drawn (w' := { w with drawn := w.drawn + 1 }) hg rfl rfl rfl rfl
      have goodB : Good ρ Res T ({ st with clock := st.clock + ops.size } : St) { w with drawn := w.drawn + 1 } := {
        inj := good0.inj
        lt := good0.lt
        fresh := fun i v hv => good0.fresh i v (by rcases hv with h1 | h1; exact .inl (Nat.le_trans (Nat.le_add_right _ _) h1); exact .inr (Nat.le_trans (Nat.le_add_right _ _) h1))
        ids := good0.ids
        blk := good0.blk
        sep := good0.sep
        res := good0.res
        tnt := good0.tnt }
      have evB : Ev ρ ρ st ({ st with clock := st.clock + ops.size } : St) w { w with drawn := w.drawn + 1 } := ⟨⟨ev0.ext, ev0.new, ev0.frame, ev0.size, ev0.shape, ev0.os, ev0.tape, ev0.output, Nat.le_add_right _ _⟩, fun _ _ h => h⟩
      have hfil : ((dvars P 0 ops.toList).filter fun x => !(Array.replicate ops.size false).getD x.i false) = dvars P 0 ops.toList := List.filter_eq_self.2 fun y _ => by
        simp only [Array.getD_eq_getD_getElem?, Array.getElem?_replicate]
        split <;> simp
      have hno : ∀ j, ¬ Lst (Array.replicate ops.size false) j := fun j => by
        simp only [Lst, Array.getD_eq_getD_getElem?, Array.getElem?_replicate]
        split <;> simp
      have hidx : ∀ (j : Nat) (x : DItem), items[j]? = some x → x.i = j := fun j x hj => by have := (F.idx j x hj).1; omega
      have hvarsAt : ∀ y ∈ dvars P 0 ops.toList, ∃ z, items[y.i]? = some z ∧ dvar P y.i z.o = some y := fun y hy => by
        obtain ⟨j, o', h1, h2⟩ := mem_dvars.1 hy
        have hj := (dvar_spec h2).1
        have hj' : y.i = j := by omega
        have hjl : j < items.length := by rw [F.len]; exact (List.getElem?_eq_some_iff.1 h1).1
        have hz : items[j]? = some items[j] := List.getElem?_eq_getElem _
        have h3 := (F.idx j _ hz).2
        rw [h1] at h3
        have h4 : items[j].o = o' := (Option.some.inj h3).symm
        exact ⟨items[j], by rw [hj']; exact hz, by rw [h4, hj', ← h2]; congr 1; omega⟩
      have hnd : ((dvars P 0 ops.toList).map (DVar.id cx)).Nodup := by
        refine List.pairwise_map.2 ((dvars_sorted (P := P) (l := ops.toList) (i := 0)).imp_of_mem fun {u v} hu hv hlt e => ?_)
        obtain ⟨zu, hzu, hdu⟩ := hvarsAt u hu
        obtain ⟨zv, hzv, hdv'⟩ := hvarsAt v hv
        have hd1 := (dvar_spec hdu).2.2.2.1
        have hd2 := (dvar_spec hdv').2.2.2.1
        have hde : u.d = v.d := by simpa using e
        have := (apart_dst (List.all_eq_true.1 (List.all_eq_true.1 hap zu (List.mem_of_getElem? hzu)) zv (List.mem_of_getElem? hzv)) (by rw [hidx _ _ hzu, hidx _ _ hzv]; omega) hd1).1
        exact this (by rw [hd2, hde])
      obtain ⟨evK, goodK⟩ := good_kill goodB ((dvars P 0 ops.toList).map fun y => Id.v (cx.base + y.d))
      have hext : ∀ b, lkI b (lackOf cx (dvars P 0 ops.toList) { st with clock := st.clock + ops.size, heap := layVars cx st.clock (dvars P 0 ops.toList) st.heap }).heap = lkI b (kill ((dvars P 0 ops.toList).map fun y => Id.v (cx.base + y.d)) st.heap) := fun b => by
        simp only [lackOf, lkI_kill]
        by_cases hm : b ∈ (dvars P 0 ops.toList).map fun y => Id.v (cx.base + y.d)
        · simp only [hm, if_true]
        · simp only [hm, if_false]
          exact (layVars_lk (cx := cx) (c0 := st.clock) b st.heap hnd).2 fun x hx e => hm (List.mem_map.2 ⟨x, hx, e⟩)
      have good1 : Good ρ Res T (lackOf cx (dvars P 0 ops.toList) { st with clock := st.clock + ops.size, heap := layVars cx st.clock (dvars P 0 ops.toList) st.heap }) { w with drawn := w.drawn + 1 } := goodK.ext rfl hext
      have ev1 : Ev ρ ρ st (lackOf cx (dvars P 0 ops.toList) { st with clock := st.clock + ops.size, heap := layVars cx st.clock (dvars P 0 ops.toList) st.heap }) w { w with drawn := w.drawn + 1 } := (evB.trans evK).ext_right rfl hext
      have h0 : DInv cx st.clock (dvars P 0 ops.toList) items ops env { st with clock := st.clock + ops.size, heap := layVars cx st.clock (dvars P 0 ops.toList) st.heap } Res T ρ st w a (Array.replicate ops.size false) a { w with drawn := w.drawn + 1 } ρ (lackOf cx (dvars P 0 ops.toList) { st with clock := st.clock + ops.size, heap := layVars cx st.clock (dvars P 0 ops.toList) st.heap }) := {
        good := good1
        ev := ev1
        tmps := hs
        defers := rfl
        size := by simp
        down := fun j x _ hl => absurd hl (hno j)
        wrote := fun j x t _ hl => absurd hl (hno j)
        kept := fun t u hu _ => (he t u hu).ev ev1 hg.res
        phase := ⟨fun x hx _ v => hg.fresh _ _ (.inl (Nat.le_add_right _ _)), _, by rw [hfil], fun x hx _ => (layVars_lk (cx := cx) (c0 := st.clock) (x.id cx) st.heap hnd).1 x hx rfl, Nat.le_refl _, .inl ⟨fun j x _ _ => hno j, rfl⟩⟩ }
      exact draw_loop hP hr hc rfl rfl F (fun x hx y hy => List.all_eq_true.1 (List.all_eq_true.1 hap x hx) y hy) (fun hh x hx => List.all_eq_true.1 (hres hh) x hx) hgl hg.res r _ (fun _ _ _ h => h) ops.size h0 (by simp)
end Go.Ax
