/- Regions whose order is drawn: every order comes to the same. -/
import Derived.Test.YtlpeajiemppicaaGreatDoorPnAyM
namespace Go.Ax
set_option linter.unusedVariables false
set_option linter.unusedSimpArgs false
variable {P : Program} {pol : Pol}

abbrev Lst (listed : Array Bool) (j : Nat) : Prop := listed.getD j false = true

theorem lst_set {listed : Array Bool} {i : Nat} (hi : i < listed.size) (j : Nat) : Lst (listed.setIfInBounds i true) j ↔ j = i ∨ Lst listed j := by
  by_cases e : j = i
  · subst e; simp [Lst, hi]
  · have : (listed.setIfInBounds i true).getD j false = listed.getD j false := getD_set_ne false (Ne.symm e)
    simp [Lst, this, e]

theorem edgeTo_spec {o : Oper} {j : Nat} (h : edgeTo o j = true) : ∃ e ∈ o.after, Region.binds .any e = true ∧ e.on = j := by
  unfold edgeTo at h
  rw [Array.any_eq_true] at h
  obtain ⟨k, hk, h2⟩ := h
  simp only [Bool.and_eq_true, beq_iff_eq] at h2
  exact ⟨o.after[k], Array.getElem_mem hk, h2.1, h2.2⟩

theorem reachN_listed {ops : Array Oper} {items : List DItem} {listed : Array Bool} (hops : ∀ (j : Nat) (o : Oper), ops[j]? = some o → ∃ z, items[j]? = some z ∧ z.o = o)
    (down : ∀ (j : Nat) (x : DItem), items[j]? = some x → Lst listed j → ∀ e ∈ x.o.after, Region.binds .any e = true → Lst listed e.on) :
    ∀ (n : Nat) {o : Oper} {j : Nat}, (∀ e ∈ o.after, Region.binds .any e = true → Lst listed e.on) → reachN ops j n o = true → Lst listed j
  | 0, o, j, hpre, h => by
    obtain ⟨e, h1, h2, h3⟩ := edgeTo_spec (show edgeTo o j = true from h)
    exact h3 ▸ hpre e h1 h2
  | n + 1, o, j, hpre, h => by
    simp only [reachN, Bool.or_eq_true] at h
    rcases h with h | h
    · obtain ⟨e, h1, h2, h3⟩ := edgeTo_spec h
      exact h3 ▸ hpre e h1 h2
    · obtain ⟨e, h1, h2⟩ := Array.any_eq_true'.1 h
      simp only [Bool.and_eq_true] at h2
      obtain ⟨⟨h3, _⟩, h4⟩ := h2
      cases ho : ops[e.on]? with
      | none => rw [ho] at h4; cases h4
      | some o' =>
        rw [ho] at h4
        obtain ⟨z, hz, rfl⟩ := hops _ _ ho
        exact reachN_listed hops down n (down e.on z hz (hpre e h1 h3)) h4

/-- Where the evaluation stands. -/
def Phase (cx : Cx) (c0 n : Nat) (vars : List DVar) (items : List DItem) (stA : St) (listed : Array Bool) (ρ : Loc) (sc : St) : Prop :=
  (∀ x ∈ vars, ¬ Lst listed x.i → ∀ v, ρ (c0 + x.i) v = none) ∧
  ∃ base : St, sc = lackOf cx (vars.filter fun x => !listed.getD x.i false) base ∧ (∀ x ∈ vars, ¬ Lst listed x.i → lkI (x.id cx) base.heap = some (x.row c0)) ∧ c0 + n ≤ base.clock ∧
    (((∀ j x, items[j]? = some x → x.loud = true → ¬ Lst listed j) ∧ base = stA) ∨
      ∃ y k, items[k]? = some y ∧ y.loud = true ∧ base = y.st' ∧ ∀ j z, items[j]? = some z → z.loud = true → (Lst listed j ↔ j ≤ k))

structure DInv (cx : Cx) (c0 : Nat) (vars : List DVar) (items : List DItem) (ops : Array Oper) (env : Env) (stA : St) (Res T : Nat → Prop) (ρ0 : Loc) (st : St) (w0 : World) (a0 : Act) (listed : Array Bool) (a : Act) (w : World) (ρ : Loc) (sc : St) : Prop where
  good : Good ρ Res T sc w
  ev : Ev ρ0 ρ st sc w0 w
  tmps : a.tmps.size = cx.nt
  defers : a.defers = a0.defers
  size : listed.size = ops.size
  down : ∀ (j : Nat) (x : DItem), items[j]? = some x → Lst listed j → ∀ e ∈ x.o.after, Region.binds .any e = true → Lst listed e.on
  wrote : ∀ (j : Nat) (x : DItem) (t : Nat), items[j]? = some x → Lst listed j → x.o.dst = some t → Fit ρ (Rs ρ sc.heap Res) T w x.v (a.tmps.getD t undef)
  kept : ∀ (t : Nat) (u : AVal), lk t env = some u → (∀ (j : Nat) (x : DItem), items[j]? = some x → Lst listed j → x.o.dst ≠ some t) → Fit ρ (Rs ρ sc.heap Res) T w u (a.tmps.getD t undef)
  phase : Phase cx c0 ops.size vars items stA listed ρ sc

theorem put_getD {a : Act} {d : Nat} {X : Value} (h : d < a.tmps.size) (t : Nat) : (a.put (some d) X).tmps.getD t undef = if d = t then X else a.tmps.getD t undef := by
  by_cases e : d = t
  · subst e; simp [Act.put, Array.getD_eq_getD_getElem?, Array.getElem?_setIfInBounds, h]
  · simp [Act.put, Array.getD_eq_getD_getElem?, Array.getElem?_setIfInBounds, e]

theorem apart_dst {ops : Array Oper} {x y : DItem} (h : apartOk ops x y = true) (hne : x.i ≠ y.i) {d : Nat} (hd : x.o.dst = some d) : y.o.dst ≠ some d ∧ (d ∈ y.o.looksAt ops → cond (Nat.blt x.i y.i) (reach ops y.o x.i) (reach ops x.o y.i) = true) := by
  unfold apartOk at h
  have hb : (x.i == y.i) = false := by simpa using hne
  rw [hb, hd] at h
  simp only [Bool.false_or, Bool.and_eq_true, Bool.not_eq_true', Bool.or_eq_true] at h
  refine ⟨fun e => by rw [e] at h; simp at h, fun hm => ?_⟩
  rcases h.2 with h2 | h2
  · have : (y.o.looksAt ops).contains d = true := by simpa using hm
    rw [this] at h2; cases h2
  · exact h2

section
variable {cx : Cx} {c0 : Nat} {vars : List DVar} {items : List DItem} {ops : Array Oper} {env : Env} {stA : St} {Res T : Nat → Prop} {ρ0 : Loc} {st : St} {w0 : World} {a0 : Act} {listed : Array Bool} {a : Act} {w : World} {ρ : Loc} {sc : St}
  (hidx : ∀ (j : Nat) (x : DItem), items[j]? = some x → x.i = j) (hap : ∀ x ∈ items, ∀ y ∈ items, apartOk ops x y = true)
include hidx hap

theorem DInv.advance (h : DInv cx c0 vars items ops env stA Res T ρ0 st w0 a0 listed a w ρ sc) {i : Nat} {x : DItem} (hx : items[i]? = some x) (hi : i < ops.size) (hpre : ∀ e ∈ x.o.after, Region.binds .any e = true → Lst listed e.on)
    (hdst : ∀ d, x.o.dst = some d → d < cx.nt) {ρ2 : Loc} {sc2 : St} {w2 : World} {X : Value} (good2 : Good ρ2 Res T sc2 w2) (ev2 : Ev ρ0 ρ2 st sc2 w0 w2)
    (carry : ∀ v u, Fit ρ (Rs ρ sc.heap Res) T w v u → Fit ρ2 (Rs ρ2 sc2.heap Res) T w2 v u) (hX : Fit ρ2 (Rs ρ2 sc2.heap Res) T w2 x.v X) (ph : Phase cx c0 ops.size vars items stA (listed.setIfInBounds i true) ρ2 sc2) :
    DInv cx c0 vars items ops env stA Res T ρ0 st w0 a0 (listed.setIfInBounds i true) (a.put x.o.dst X) w2 ρ2 sc2 := by
  have hi' : i < listed.size := by rw [h.size]; exact hi
  have hmem : ∀ {j : Nat} {z : DItem}, items[j]? = some z → z ∈ items := fun hz => List.mem_of_getElem? hz
  refine ⟨good2, ev2, ?_, ?_, by simp [h.size], fun j z hz hl e he hb => ?_, fun j z t hz hl hd => ?_, fun t u hu hn => ?_, ph⟩
  · cases x.o.dst <;> simp [Act.put, h.tmps]
  · rw [← h.defers]; cases x.o.dst <;> rfl
  · rw [lst_set hi'] at hl ⊢
    rcases hl with rfl | hl
    · rw [hx] at hz; cases hz
      exact .inr (hpre e he hb)
    · exact .inr (h.down j z hz hl e he hb)
  · rw [lst_set hi'] at hl
    by_cases e : j = i
    · subst e
      rw [hx] at hz; cases hz
      rw [hd, put_getD (by rw [h.tmps]; exact hdst t hd)]
      simpa using hX
    · have hl' := hl.resolve_left e
      have hf := carry _ _ (h.wrote j z t hz hl' hd)
      cases hxd : x.o.dst with
      | none => exact hf
      | some d =>
        have hne : d ≠ t := fun e2 => by
          subst e2
          exact (apart_dst (hap x (hmem hx) z (hmem hz)) (by rw [hidx _ _ hx, hidx _ _ hz]; exact Ne.symm e) hxd).1 hd
        rw [put_getD (by rw [h.tmps]; exact hdst d hxd)]
        simpa [hne] using hf
  · have hf := carry _ _ (h.kept t u hu fun j z hz hl => hn j z hz (by rw [lst_set hi']; exact .inr hl))
    cases hxd : x.o.dst with
    | none => exact hf
    | some d =>
      have hne : d ≠ t := fun e2 => hn i x hx (by rw [lst_set hi']; exact .inl rfl) (by rw [hxd, e2])
      rw [put_getD (by rw [h.tmps]; exact hdst d hxd)]
      simpa [hne] using hf

/-- What a ready operation looks at lies in its slots. -/
theorem DInv.envOk (hops : ∀ (j : Nat) (o : Oper), ops[j]? = some o → ∃ z, items[j]? = some z ∧ z.o = o) (h : DInv cx c0 vars items ops env stA Res T ρ0 st w0 a0 listed a w ρ sc) {i : Nat} {x : DItem} (hx : items[i]? = some x) (hun : ¬ Lst listed i) (hpre : ∀ e ∈ x.o.after, Region.binds .any e = true → Lst listed e.on)
    (henv : ∀ t u, lk t x.env = some u → (∃ (k : Nat) (z : DItem), k < i ∧ items[k]? = some z ∧ z.o.dst = some t ∧ u = z.v) ∨ (lk t env = some u ∧ ∀ (k : Nat) (z : DItem), k < i → items[k]? = some z → z.o.dst ≠ some t)) :
    EnvOk ρ (Rs ρ sc.heap Res) T w (pickE (x.o.looksAt ops) x.env) a.tmps := by
  have hmem : ∀ {j : Nat} {z : DItem}, items[j]? = some z → z ∈ items := fun hz => List.mem_of_getElem? hz
  intro t u ht
  obtain ⟨h1, h2⟩ := lk_pickE ht
  rcases henv t u h2 with ⟨k, z, hk, hz, hd, rfl⟩ | ⟨he, hn⟩
  · refine h.wrote k z t hz ?_ hd
    have hne : z.i ≠ x.i := by rw [hidx _ _ hx, hidx _ _ hz]; omega
    have := (apart_dst (hap z (hmem hz) x (hmem hx)) hne hd).2 h1
    have hb : Nat.blt z.i x.i = true := by rw [hidx _ _ hx, hidx _ _ hz]; simpa using hk
    rw [hb, cond_true] at this
    have := reachN_listed hops h.down 5 hpre this
    rw [hidx _ _ hz] at this
    exact this
  · refine h.kept t u he fun j z hz hl hd => ?_
    have hji : j ≠ i := fun e => hun (e ▸ hl)
    rcases Nat.lt_or_ge j i with hlt | hge
    · exact hn j z hlt hz hd
    · have hne : z.i ≠ x.i := by rw [hidx _ _ hx, hidx _ _ hz]; exact hji
      have := (apart_dst (hap z (hmem hz) x (hmem hx)) hne hd).2 h1
      have hb : Nat.blt z.i x.i = false := by
        rw [hidx _ _ hx, hidx _ _ hz]
        cases hbb : Nat.blt j i with
        | false => rfl
        | true => have : j < i := by simpa using hbb
                  omega
      rw [hb, cond_false] at this
      have := reachN_listed hops h.down 5 (h.down j z hz hl) this
      rw [hidx _ _ hx] at this
      exact hun this
end

theorem filter_set {vars : List DVar} {listed : Array Bool} {i : Nat} (hv : ∀ y ∈ vars, y.i ≠ i) : (vars.filter fun x => !(listed.setIfInBounds i true).getD x.i false) = vars.filter fun x => !listed.getD x.i false :=
  List.filter_congr fun y hy => by rw [getD_set_ne false (Ne.symm (hv y hy))]

/-- A quiet operation that lays nothing leaves the phase as it is. -/
theorem Phase.quiet {cx : Cx} {c0 n : Nat} {vars : List DVar} {items : List DItem} {stA : St} {listed : Array Bool} {ρ : Loc} {sc : St} (h : Phase cx c0 n vars items stA listed ρ sc) {i : Nat} {x : DItem} (hx : items[i]? = some x) (hq : x.loud = false) (hv : ∀ y ∈ vars, y.i ≠ i) (hi : i < listed.size) :
    Phase cx c0 n vars items stA (listed.setIfInBounds i true) ρ sc := by
  have hne : ∀ j z, items[j]? = some z → z.loud = true → j ≠ i := fun j z hz hl e => by
    subst e; rw [hx] at hz; cases hz; rw [hq] at hl; cases hl
  obtain ⟨p3, base, p2, pr, pc, pm⟩ := h
  refine ⟨fun y hy hn v => p3 y hy (fun hl => hn ((lst_set hi _).2 (.inr hl))) v, base, by rw [filter_set hv]; exact p2, fun y hy hn => pr y hy (fun hl => hn ((lst_set hi _).2 (.inr hl))), pc, ?_⟩
  rcases pm with ⟨h1, h2⟩ | ⟨y, k, h1, h2, h3, h4⟩
  · refine .inl ⟨fun j z hz hl => ?_, h2⟩
    rw [lst_set hi]
    rintro (e | e)
    · exact hne j z hz hl e
    · exact h1 j z hz hl e
  · exact .inr ⟨y, k, h1, h2, h3, fun j z hz hl => by rw [lst_set hi, ← h4 j z hz hl]; simp [hne j z hz hl]⟩

end Go.Ax
