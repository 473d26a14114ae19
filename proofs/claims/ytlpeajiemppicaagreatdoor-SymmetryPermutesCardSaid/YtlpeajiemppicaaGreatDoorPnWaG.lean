/- A loop over a list: one step a round, by induction on what is left. -/
import Derived.Test.YtlpeajiemppicaaGreatDoorPnWaE
namespace Go.Ax
set_option linter.unusedVariables false
variable {P : Program} {pol : Pol} {cx : Cx}

/-- Element by element, until one of them ends it. -/
def foldU {α σ ρ : Type} (f : Nat → α → σ → σ ⊕ ρ) : List α → Nat → σ → σ ⊕ ρ
  | [], _, acc => .inl acc
  | x :: r, i, acc => match f i x acc with
    | .inl acc' => foldU f r (i + 1) acc'
    | .inr y => .inr y

/-- What a loop ends with: its list is done (.inl), or a round left it (.inr). -/
def Ends (pol : Pol) (P : Program) (cx : Cx) (c : Code) (env : Env) (st : St) {σ ρ : Type} (ee : σ → Out × Env × St → Prop) (er : ρ → Out × Env × St → Prop) (r : σ ⊕ ρ) : Prop :=
  ∃ o e s, Run pol P cx c env st o e s ∧ match r with
    | .inl acc => ee acc (o, e, s)
    | .inr y => er y (o, e, s)

theorem loop_fold {α σ ρ : Type} {c a : Code} (hc : c = .loop a) (ht : tame a = true) (E : Nat → σ → Env) (S : Nat → σ → St) (inv : Nat → σ → Prop) (f : Nat → α → σ → σ ⊕ ρ) {ee : σ → Out × Env × St → Prop} {er : ρ → Out × Env × St → Prop} (xs : List α)
    (hstep : ∀ i x acc, xs[i]? = some x → inv i acc → match f i x acc with
      | .inl acc' => inv (i + 1) acc' ∧ Run pol P cx a (E i acc) (S i acc) .norm (E (i + 1) acc') (S (i + 1) acc')
      | .inr y => ∃ o e s, Run pol P cx a (E i acc) (S i acc) o e s ∧ o.isNorm = false ∧ er y (o, e, s))
    (hend : ∀ acc, inv xs.length acc → ∃ o e s, Run pol P cx a (E xs.length acc) (S xs.length acc) o e s ∧ o.isNorm = false ∧ ee acc (o, e, s)) :
    ∀ (rest : List α) (i : Nat) (acc : σ), xs.drop i = rest → i ≤ xs.length → inv i acc → Ends pol P cx c (E i acc) (S i acc) ee er (foldU f rest i acc)
  | [], i, acc, hd, hi, hv => by
    have hl : xs.length ≤ i := by
      have := congrArg List.length hd
      simp only [List.length_drop, List.length_nil] at this
      omega
    obtain rfl : i = xs.length := by omega
    obtain ⟨o, e, s, h1, h2, h3⟩ := hend acc hv
    exact ⟨o, e, s, Run.loopOut hc h2 h1, h3⟩
  | x :: rest, i, acc, hd, hi, hv => by
    have hx : xs[i]? = some x := by
      have := congrArg (fun l => l[0]?) hd
      simpa using this
    have hil : i < xs.length := (List.getElem?_eq_some_iff.1 hx).1
    have hd' : xs.drop (i + 1) = rest := by
      rw [← List.drop_drop, hd]
      rfl
    have h := hstep i x acc hx hv
    simp only [foldU]
    cases hf : f i x acc with
    | inl acc' =>
      rw [hf] at h
      obtain ⟨h1, h2⟩ := h
      obtain ⟨o, e, s, h3, h4⟩ := loop_fold hc ht E S inv f xs hstep hend rest (i + 1) acc' hd' hil h1
      exact ⟨o, e, s, Run.loop hc ht h2 h3, h4⟩
    | inr y =>
      rw [hf] at h
      obtain ⟨o, e, s, h1, h2, h3⟩ := h
      exact ⟨o, e, s, Run.loopOut hc h2 h1, h3⟩

theorem loop_list {α σ ρ : Type} {c a : Code} (hc : c = .loop a) (ht : tame a = true) (E : Nat → σ → Env) (S : Nat → σ → St) (inv : Nat → σ → Prop) (f : Nat → α → σ → σ ⊕ ρ) {ee : σ → Out × Env × St → Prop} {er : ρ → Out × Env × St → Prop} (xs : List α)
    (hstep : ∀ i x acc, xs[i]? = some x → inv i acc → match f i x acc with
      | .inl acc' => inv (i + 1) acc' ∧ Run pol P cx a (E i acc) (S i acc) .norm (E (i + 1) acc') (S (i + 1) acc')
      | .inr y => ∃ o e s, Run pol P cx a (E i acc) (S i acc) o e s ∧ o.isNorm = false ∧ er y (o, e, s))
    (hend : ∀ acc, inv xs.length acc → ∃ o e s, Run pol P cx a (E xs.length acc) (S xs.length acc) o e s ∧ o.isNorm = false ∧ ee acc (o, e, s)) (acc : σ) (h0 : inv 0 acc) : Ends pol P cx c (E 0 acc) (S 0 acc) ee er (foldU f xs 0 acc) :=
  loop_fold hc ht E S inv f xs hstep hend xs 0 acc rfl (Nat.zero_le _) h0

/-! ### rows of cells -/
/-- Elements laid side by side. -/
def flat {α : Type} (enc : α → List AVal) : List α → List AVal
  | [] => []
  | x :: r => enc x ++ flat enc r

theorem flat_drop {α : Type} {enc : α → List AVal} {n : Nat} (hn : ∀ x, (enc x).length = n) : ∀ (xs : List α) (i : Nat) (x : α), xs[i]? = some x → (flat enc xs).drop (i * n) = enc x ++ flat enc (xs.drop (i + 1))
  | [], i, x, h => by simp at h
  | y :: r, 0, x, h => by
    simp only [List.getElem?_cons_zero, Option.some.injEq] at h
    subst h
    simp [flat]
  | y :: r, i + 1, x, h => by
    simp only [List.getElem?_cons_succ] at h
    have ih := flat_drop hn r i x h
    simp only [flat, List.drop_succ_cons]
    have e1 : (i + 1) * n = n + i * n := by rw [Nat.add_mul]; omega
    have e2 : (enc y ++ flat enc r).drop n = flat enc r := by
      rw [List.drop_append_of_le_length (by rw [hn]; exact Nat.le_refl _), List.drop_of_length_le (by rw [hn]; exact Nat.le_refl _), List.nil_append]
    rw [← ih, e1, ← List.drop_drop, e2]

theorem flat_append {α : Type} {enc : α → List AVal} : ∀ (xs ys : List α), flat enc (xs ++ ys) = flat enc xs ++ flat enc ys
  | [], _ => rfl
  | x :: r, ys => by simp only [List.cons_append, flat, flat_append r ys, List.append_assoc]

theorem flat_len {α : Type} {enc : α → List AVal} {n : Nat} (hn : ∀ x, (enc x).length = n) : ∀ (xs : List α), (flat enc xs).length = xs.length * n
  | [] => by simp [flat]
  | x :: r => by simp only [flat, List.length_append, hn, flat_len hn r, List.length_cons, Nat.add_mul, Nat.one_mul]; omega
end Go.Ax

namespace Go.Ax
set_option linter.unusedVariables false
set_option linter.unusedSimpArgs false
variable {P : Program} {pol : Pol} {cx : Cx}

theorem op_builtin {rec : Task → Option Res} {o : Oper} {c : Call} {b : Builtin} {env : Env} {st : St} {args : List AVal} {r : OpR} (ho : o.op = .call c) (hc : c.callee = .builtin b) (ha : evL pol env c.args.toList = some args) (hr : abuiltin pol cx P o.dst b c.argTypes.toList args st = some r) : aoper rec pol cx P env st o = some r := by
  unfold aoper
  rw [ho]
  simp only [hc]
  unfold aop
  rw [ho]
  simp only [hc, ha, hr]

theorem asource_sl {st : St} {sz : Nat} {cxb : Bool} {b : Id} {inc cur low len : Nat} {data : Bool} {cells : List AVal} (hl : lkI b st.heap = some (.row inc cur low data cells)) (hlen : cells.length = len * sz) : asource st sz (.sl cxb b inc cur 0 len sz) = some (len, cells) := by
  unfold asource
  have h := rowAt_row hl 0 (len * sz) (by omega)
  simp only [h, beq_self_eq_true, cond_true, Option.map_some, List.drop_zero]
  rw [← hlen, List.take_length]

theorem asource_fsl {st : St} {sz : Nat} {tn cxb : Bool} {len : Nat} {cells : List AVal} (hlen : cells.length = len * sz) : asource st sz (.fsl tn cxb len cells) = some (len, cells) := by
  unfold asource
  simp [hlen]

/-- What is asked of the types at an append: elements of sz cells and bs bytes. -/
def appOk (P : Program) (sT xT : TypeId) (sz bs : Nat) : Bool :=
  match P.underlying sT, P.underlying xT with
  | some (.slice e), some xd => !isIntT xd && (match P.info? e, zeroT P e with
    | some i, some z => i.size == sz && i.bytes == bs && z.cellsOf.length == i.size
    | _, _ => false)
  | _, _ => false

theorem appOk_spec {sT xT : TypeId} {sz bs : Nat} (h : appOk P sT xT sz bs = true) : ∃ e xd i z, P.underlying sT = some (.slice e) ∧ P.underlying xT = some xd ∧ isIntT xd = false ∧ P.info? e = some i ∧ zeroT P e = some z ∧ i.size = sz ∧ i.bytes = bs ∧ (z.cellsOf.length == i.size) = true := by
  unfold appOk at h
  split at h
  · rename_i e xd h1 h2
    simp only [Bool.and_eq_true, Bool.not_eq_true'] at h
    obtain ⟨h3, h4⟩ := h
    split at h4
    · rename_i i z h5 h6
      simp only [Bool.and_eq_true] at h4
      exact ⟨e, xd, i, z, h1, h2, h3, h5, h6, by simpa using h4.1.1, by simpa using h4.1.2, h4.2⟩
    · cases h4
  · cases h

theorem frzData_pure {cells : List AVal} {st : St} (h : allPure cells = true) : frzData pol cx cells st = (cells, st) := by
  unfold frzData
  simp [h]

theorem rowId_plain {dst : Nat} {st : St} (h : pol.fresh cx.fn dst = false) : rowId pol cx dst st = (.r (cx.fn * 1000 + dst), st) := by
  unfold rowId
  simp [h]

theorem aappend_fsl {dst : Nat} {sT xT : TypeId} {sz bs : Nat} (hok : appOk P sT xT sz bs = true) {x : AVal} {st : St} {n : Nat} {new : List AVal} (hsrc : asource st sz x = some (n, new)) (hone : new.all AVal.one = true) (hn : (n == 0) = false) (hp : allPure new = true) (hfr : pol.fresh cx.fn dst = false)
    {tn : Bool} {len : Nat} {cells : List AVal} (hlen : cells.length = len * sz) (hc1 : (len + n) * bs ≤ 140737488355328) (hc2 : len + n ≤ 140737488355328) :
    aappend pol cx P dst sT xT (.fsl tn true len cells) x st = some (.sl false (.r (cx.fn * 1000 + dst)) st.clock st.clock 0 (len + n) sz, newRow (.r (cx.fn * 1000 + dst)) true (cells ++ new) st) := by
  obtain ⟨e, xd, i, z, h1, h2, h3, h4, h5, rfl, rfl, h6⟩ := appOk_spec hok
  unfold aappend
  simp only [h1, h2, h3, cond_false]
  unfold aappend1
  simp only [h4, h5, h6, cond_true, hsrc, hone, hn, cond_false, frzData_pure hp]
  unfold aappendTo
  simp [hlen, hc1, hc2, rowId_plain hfr]

theorem aappend_sl {dst : Nat} {sT xT : TypeId} {sz bs : Nat} (hok : appOk P sT xT sz bs = true) {x : AVal} {st : St} {n : Nat} {new : List AVal} (hsrc : asource st sz x = some (n, new)) (hone : new.all AVal.one = true) (hn : (n == 0) = false) (hp : allPure new = true)
    {b : Id} {inc cur low len : Nat} {data : Bool} {cells : List AVal} (hl : lkI b st.heap = some (.row inc cur low data cells)) (hlen : cells.length = len * sz) (hc1 : (len + n) * bs ≤ 140737488355328) (hc2 : len + n ≤ 140737488355328) :
    aappend pol cx P dst sT xT (.sl false b inc cur 0 len sz) x st = some (.sl false b inc st.clock 0 (len + n) sz, { st with clock := st.clock + 1, heap := upI b (.row inc st.clock (Nat.min low (len * sz)) data (cells ++ new)) st.heap }) := by
  obtain ⟨e, xd, i, z, h1, h2, h3, h4, h5, rfl, rfl, h6⟩ := appOk_spec hok
  unfold aappend
  simp only [h1, h2, h3, cond_false]
  unfold aappend1
  simp only [h4, h5, h6, cond_true, hsrc, hone, hn, cond_false, frzData_pure hp]
  unfold aappendTo
  have h := rowAt_row hl 0 (len * i.size) (by omega)
  have e : (List.drop 0 cells).take (len * i.size) = cells := by rw [← hlen]; simp
  simp only [beq_self_eq_true, decide_eq_true hc1, decide_eq_true hc2, Bool.and_self, cond_true, h, hl, e]

/-- The append of one (or more) elements as an operation. -/
theorem op_append {rec : Task → Option Res} {o : Oper} {c : Call} {env : Env} {st st' : St} {s x v : AVal} {d : Nat} {sT xT : TypeId} (ho : o.op = .call c) (hc : c.callee = .builtin .append) (ha : evL pol env c.args.toList = some [s, x]) (ht : c.argTypes.toList = [sT, xT]) (hd : o.dst = some d)
    (h : aappend pol cx P d sT xT s x st = some (v, st')) : aoper rec pol cx P env st o = some (v, st', true) := by
  refine op_builtin ho hc ha ?_
  unfold abuiltin
  rw [ht, hd]
  simp only [h, loudR]

theorem aindexAddr_sl {t elem : TypeId} {n : Nat} (hu : P.underlying t = some (.slice elem)) (hs : szT P elem = some n) {cxb : Bool} {b : Id} {inc ver off len : Nat} {k : IntKind} {i : Nat} (hi : i < len) :
    aindexAddr P t (.sl cxb b inc ver off len n) (.int k i) = some (.ptr b inc ver (off + i * n)) := by
  unfold aindexAddr
  simp only [hu, hs]
  have h1 : decide ((0 : Int) ≤ (i : Int)) = true := by simp
  have h2 : decide ((i : Int) < (len : Int)) = true := by simp [hi]
  simp [h1, h2, hi]

/-- A store into a slice's row. -/
theorem astore_data {t : TypeId} {st : St} {b : Id} {inc cur low off : Nat} {data : Bool} {cells : List AVal} {v : AVal} (hs : szT P t = some v.cellsOf.length) (hl : lkI b st.heap = some (.row inc cur low data cells)) (h1 : v.cellsOf.all AVal.one = true) (hp : allPure v.cellsOf = true) (hn : off + v.cellsOf.length ≤ cells.length) :
    astore pol cx P t (.ptr b inc cur off) v st = some { st with heap := upI b (.row inc cur (cond (cur == inc) low (Nat.min low off)) data (setAt cells off v.cellsOf)) st.heap } := by
  unfold astore
  have hb : Nat.ble (off + v.cellsOf.length) cells.length = true := Nat.ble_eq_true_of_le hn
  have hd : isData st.heap b = data := by unfold isData; rw [hl]
  cases data <;> simp [hs, h1, hd, frzData_pure hp, putCells, hl, hb]

theorem zeroRow_one (z : AVal) : ∀ n, zeroRow [z] n = List.replicate n z := by
  intro n
  unfold zeroRow
  apply List.ext_getElem
  · simp
  · intro i h1 h2
    simp [Nat.mod_one]

def makeOk (P : Program) (t : TypeId) (bs : Nat) (z : AVal) : Bool :=
  match P.underlying t with
  | some (.slice e) => match P.info? e, zeroT P e with
    | some i, some y => i.size == 1 && i.bytes == bs && aveq 9 y z && z.cellsOf.length == 1 && z.cellsOf.all AVal.one && (match z with | .agg _ => false | _ => true)
    | _, _ => false
  | _ => false

theorem amakeSlice_one {dst : Nat} {t : TypeId} {bs : Nat} {z : AVal} (hok : makeOk P t bs z = true) {k k' : IntKind} {l : Nat} {st : St} (hfr : pol.fresh cx.fn dst = false) (hc1 : (l : Int) ≤ 281474976710656) (hc2 : (bs : Int) * (l : Int) ≤ 281474976710656) :
    amakeSlice pol cx P dst t (.int k (l : Int)) (.int k' (l : Int)) st = some (.sl true (.r (cx.fn * 1000 + dst)) st.clock st.clock 0 l 1, newRow (.r (cx.fn * 1000 + dst)) true (List.replicate l z) st) := by
  unfold makeOk at hok
  split at hok
  · rename_i e h1
    split at hok
    · rename_i i y h2 h3
      simp only [Bool.and_eq_true, beq_iff_eq] at hok
      obtain ⟨⟨⟨⟨⟨h4, h5⟩, h6⟩, h7⟩, h8⟩, h9⟩ := hok
      have hy : y = z := aveq_true 9 h6
      subst hy
      subst h5
      have hz : y.cellsOf = [y] := by
        cases y <;> first | rfl | cases h9
      unfold amakeSlice
      have g1 : decide ((0 : Int) ≤ (l : Int)) = true := by simp
      rw [hz] at h8
      have h8' : ([y].all AVal.one) = true := h8
      simp only [h1, h2, h3, g1, h4, hz, h8', decide_eq_true hc1, decide_eq_true hc2, Int.le_refl, decide_true, Bool.and_self, cond_true, rowId_plain hfr, Int.toNat_natCast, Nat.mul_one, zeroRow_one, List.length_cons, List.length_nil, beq_self_eq_true]
    · cases hok
  · cases hok
theorem op_make {rec : Task → Option Res} {o : Oper} {t : TypeId} {l c : Operand} {env : Env} {st st' : St} {d : Nat} {lv cv v : AVal} (ho : o.op = .makeSlice t l c) (hd : o.dst = some d) (hl : aev pol env l = some lv) (hc : aev pol env c = some cv) (h : amakeSlice pol cx P d t lv cv st = some (v, st')) : aoper rec pol cx P env st o = some (v, st', true) := by
  unfold aoper aop
  rw [ho]
  simp only [hd, hl, hc, h, loudR]

theorem setAt_one (xs : List Int) (k : Nat) (v : Int) (hk : k < xs.length) : setAt (xs.map (AVal.int .i64)) (0 + k * 1) [.int .i64 v] = (xs.set k v).map (AVal.int .i64) := by
  unfold setAt
  rw [Nat.zero_add, Nat.mul_one]
  rw [List.set_eq_take_append_cons_drop, if_pos hk]
  simp [List.map_take, List.map_drop]
end Go.Ax
