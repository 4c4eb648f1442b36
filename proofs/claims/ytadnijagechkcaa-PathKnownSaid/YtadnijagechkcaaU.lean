/- A region whose order is drawn, by an invariant: each operation leaves a value of which something is known that lasts. -/
import Derived.Test.YtadnijagechkcaaM
import Derived.Orders
namespace Go.Proofs.Ytadnijagechkcaa
open Go.RowKit

/-- No edge leads forward. -/
def backB (ops : Array Oper) : Bool := (List.range ops.size).all fun i => ((ops[i]?).map fun o => o.after.all fun e => decide (e.on < i)).getD true

theorem back_spec {ops : Array Oper} (h : backB ops = true) {i : Nat} {o : Oper} (ho : ops[i]? = some o) : ∀ e ∈ o.after, e.on < i := by
  unfold backB at h
  rw [List.all_eq_true] at h
  have hi : i < ops.size := (Array.getElem?_eq_some_iff.1 ho).1
  have := h i (List.mem_range.2 hi)
  rw [ho] at this
  simp only [Option.map_some, Option.getD_some, Array.all_eq_true_iff_forall_mem, decide_eq_true_eq] at this
  exact this

theorem ready_all {md : Region.Mode} {ops : Array Oper} (hb : backB ops = true) {listed : Array Bool} (hs : listed.size = ops.size) (h : Region.ready md ops listed = []) : ∀ i, i < ops.size → listed.getD i false = true := by
  intro i
  induction i using Nat.strongRecOn with
  | _ i ih =>
    intro hi
    refine Classical.byContradiction fun hc => ?_
    have ho : ops[i]? = some ops[i] := Array.getElem?_eq_getElem hi
    have hmem : i ∈ Region.ready md ops listed := by
      rw [mem_ready]
      refine ⟨?_, _, ho, fun e he _ => ih e.on (back_spec hb ho e he) (Nat.lt_trans (back_spec hb ho e he) hi)⟩
      cases hx : listed.getD i true
      · rfl
      · exfalso
        apply hc
        have hi' : i < listed.size := by omega
        simp only [Array.getD, hi', dite_true] at hx ⊢
        exact hx
    rw [h] at hmem
    cases hmem

/-- Each operation writes a slot of its own, below n. -/
def dstB (ops : Array Oper) (n : Nat) : Bool :=
  (List.range ops.size).all fun i => ((ops[i]?).map fun o => match o.dst with
    | some d => decide (d < n) && (List.range ops.size).all fun j => decide (j = i) || ((ops[j]?).map fun o' => decide (o'.dst ≠ some d)).getD true
    | none => false).getD true
theorem dst_spec {ops : Array Oper} {n : Nat} (h : dstB ops n = true) {i : Nat} {o : Oper} (ho : ops[i]? = some o) : ∃ d, o.dst = some d ∧ d < n ∧ ∀ j o', ops[j]? = some o' → o'.dst = some d → j = i := by
  unfold dstB at h
  rw [List.all_eq_true] at h
  have hi : i < ops.size := (Array.getElem?_eq_some_iff.1 ho).1
  have := h i (List.mem_range.2 hi)
  rw [ho] at this
  simp only [Option.map_some, Option.getD_some] at this
  cases hd : o.dst with
  | none => rw [hd] at this; cases this
  | some d =>
    rw [hd] at this
    simp only [Bool.and_eq_true, decide_eq_true_eq, List.all_eq_true, List.mem_range, Bool.or_eq_true] at this
    refine ⟨d, rfl, this.1, fun j o' hj hd' => ?_⟩
    have hjl : j < ops.size := (Array.getElem?_eq_some_iff.1 hj).1
    rcases this.2 j hjl with e | e
    · exact e
    · rw [hj] at e
      simp only [Option.map_some, Option.getD_some, decide_eq_true_eq] at e
      exact absurd hd' e

/-- What is known in the midst of the region. -/
structure Mid (ops : Array Oper) (F : Nat → Value → World → Prop) (W : World) (a0 : Act) (listed : Array Bool) (a : Act) (w : World) : Prop where
  below : Below W.heap.size W w
  defers : a.defers = a0.defers
  size : a.tmps.size = a0.tmps.size
  base : ∀ s : Nat, (∀ (i : Nat) (o : Oper), ops[i]? = some o → o.dst ≠ some s) → a.tmps[s]? = a0.tmps[s]?
  done_ : ∀ (i : Nat) (o : Oper) (d : Nat), ops[i]? = some o → o.dst = some d → listed.getD i false = true → F i (a.tmps.getD d undef) w

theorem put_get {a : Act} {d : Nat} {v : Value} (h : d < a.tmps.size) : (a.put (some d) v).tmps.getD d undef = v := by
  simp [Act.put, h]
theorem put_other {a : Act} {d s : Nat} {v : Value} (h : s ≠ d) : (a.put (some d) v).tmps[s]? = a.tmps[s]? := by
  simp [Act.put, Array.getElem?_setIfInBounds_ne (Ne.symm h)]

theorem wpAny_mid {P : Program} {md : Region.Mode} {ops : Array Oper} {Q : Exit → Act → World → Prop} {F : Nat → Value → World → Prop} {W : World} {a0 : Act} (hb : backB ops = true) (hd : dstB ops a0.tmps.size = true)
    (hF : ∀ i v w w', F i v w → Below w.heap.size w w' → F i v w')
    (hstep : ∀ (i : Nat) (o : Oper), ops[i]? = some o → o.guard = none ∧ ∀ (a : Act) (w : World), Below W.heap.size W w → (∀ s : Nat, (∀ (i : Nat) (o : Oper), ops[i]? = some o → o.dst ≠ some s) → a.tmps[s]? = a0.tmps[s]?) →
      (∀ e ∈ o.after, Region.binds md e = true → ∀ (o' : Oper) (d : Nat), ops[e.on]? = some o' → o'.dst = some d → F e.on (a.tmps.getD d undef) w) →
      o.wp P a w (fun a' w' => ∃ v, a' = a.put o.dst v ∧ Below w.heap.size w w' ∧ F i v w') Q)
    (hend : ∀ (a : Act) (w : World), Below W.heap.size W w → a.defers = a0.defers → a.tmps.size = a0.tmps.size → (∀ s : Nat, (∀ (i : Nat) (o : Oper), ops[i]? = some o → o.dst ≠ some s) → a.tmps[s]? = a0.tmps[s]?) →
      (∀ (i : Nat) (o : Oper) (d : Nat), ops[i]? = some o → o.dst = some d → F i (a.tmps.getD d undef) w) → Q .normal a w) :
    ∀ (fuel : Nat) (listed : Array Bool) (a : Act) (w : World), listed.size = ops.size → ((List.range ops.size).filter fun i => !listed.getD i false).length ≤ fuel → Mid ops F W a0 listed a w → wpAny P md ops Q fuel listed a w := by
  have fin : ∀ (listed : Array Bool) a w, listed.size = ops.size → Region.ready md ops listed = [] → Mid ops F W a0 listed a w → Q .normal a w := fun listed a w hs hr hm =>
    hend a w hm.below hm.defers hm.size hm.base fun i o d ho hdd => hm.done_ i o d ho hdd (ready_all hb hs hr i (Array.getElem?_eq_some_iff.1 ho).1)
  intro fuel
  induction fuel with
  | zero =>
    intro listed a w hs hl hm
    have hall : ∀ i, i < ops.size → listed.getD i false = true := fun i hi => by
      have := List.eq_nil_of_length_eq_zero (Nat.le_zero.1 hl)
      rw [List.filter_eq_nil_iff] at this
      simpa using this i (List.mem_range.2 hi)
    have hr : Region.ready md ops listed = [] := by
      rw [List.eq_nil_iff_forall_not_mem]
      intro i hi
      rw [mem_ready] at hi
      obtain ⟨h0, o, ho, -⟩ := hi
      have hi' : i < ops.size := (Array.getElem?_eq_some_iff.1 ho).1
      have h1 := hall i hi'
      have hi'' : i < listed.size := by omega
      simp only [Array.getD, hi'', dite_true] at h0 h1
      rw [h0] at h1
      cases h1
    exact ⟨hr, fin listed a w hs hr hm⟩
  | succ fuel ih =>
    intro listed a w hs hl hm
    refine ⟨fun hr => fin listed a w hs hr hm, fun i hi => ?_⟩
    have hi0 := hi
    rw [mem_ready] at hi
    obtain ⟨h0, o, ho, hafter⟩ := hi
    have hio : i < ops.size := (Array.getElem?_eq_some_iff.1 ho).1
    have hil : i < listed.size := by omega
    obtain ⟨hg, hs'⟩ := hstep i o ho
    obtain ⟨d, hdd, hdn, huniq⟩ := dst_spec hd ho
    have hnot : listed.getD i false = false := by
      simp only [Array.getD, hil, dite_true] at h0 ⊢
      exact h0
    have hw := hs' a w hm.below hm.base (fun e he hbn o' d' ho' hd' => hm.done_ _ _ _ ho' hd' (hafter e he hbn))
    unfold wpOp
    simp only [ho]
    rw [if_pos (by simp [Region.wanted, hg])]
    refine .inl (Oper.wp_mono ?_ hw)
    rintro a' w' ⟨v, rfl, hbw, hv⟩
    refine ih _ _ _ (by simpa using hs) ?_ ?_
    · have hlt : ((List.range ops.size).filter fun j => !(listed.setIfInBounds i true).getD j false).length < ((List.range ops.size).filter fun j => !listed.getD j false).length := by
        have e : ((List.range ops.size).filter fun j => !(listed.setIfInBounds i true).getD j false) = ((List.range ops.size).filter fun j => !listed.getD j false).filter fun j => decide (j ≠ i) := by
          rw [List.filter_filter]
          congr 1
          funext j
          by_cases hj : i = j
          · subst hj; simp [hil]
          · rw [getD_set_ne false hj]; simp [Ne.symm hj]
        rw [e]
        refine Nat.lt_of_le_of_ne (List.length_filter_le _ _) fun hlen => ?_
        have := List.length_filter_eq_length_iff.1 hlen i (List.mem_filter.2 ⟨List.mem_range.2 hio, by simp [hnot]⟩)
        simp at this
      omega
    · refine ⟨hm.below.trans (hbw.mono hm.below.size), ?_, ?_, fun s hs => ?_, fun j o' d' ho' hd' hlj => ?_⟩
      · rw [← hm.defers]; unfold Act.put; split <;> rfl
      · rw [← hm.size, hdd]; simp [Act.put]
      · rw [hdd, put_other (fun e => hs i o ho (by rw [hdd, e])), hm.base s hs]
      · by_cases hj : j = i
        · subst hj
          rw [ho] at ho'
          injection ho' with ho'
          subst ho'
          rw [hdd] at hd'
          injection hd' with hd'
          subst hd'
          rw [hdd, put_get (by rw [hm.size]; exact hdn)]
          exact hv
        · rw [getD_set_ne false (Ne.symm hj)] at hlj
          have hne : d' ≠ d := fun e => hj (huniq j o' ho' (by rw [hd', e]))
          have hget : (a.put o.dst v).tmps.getD d' undef = a.tmps.getD d' undef := by
            rw [hdd]
            have := put_other (a := a) (v := v) hne
            simp only [Array.getD_eq_getD_getElem?, this]
          rw [hget]
          exact hF _ _ _ _ (hm.done_ j o' d' ho' hd' hlj) hbw

/-- A region without guards, whatever order is drawn. -/
theorem wp_region_mid {P : Program} {id : Nat} {ops : Array Oper} {Q : Exit → Act → World → Prop} {W : World} {a0 : Act} (F : Nat → Value → World → Prop) (hm : P.follows .mixedOrders = true) (hb : backB ops = true) (hd : dstB ops a0.tmps.size = true)
    (hF : ∀ i v w w', F i v w → Below w.heap.size w w' → F i v w')
    (hstep : ∀ (i : Nat) (o : Oper), ops[i]? = some o → o.guard = none ∧ ∀ (a : Act) (w : World), Below W.heap.size W w → (∀ s : Nat, (∀ (i : Nat) (o : Oper), ops[i]? = some o → o.dst ≠ some s) → a.tmps[s]? = a0.tmps[s]?) →
      (∀ e ∈ o.after, Region.binds .any e = true → ∀ (o' : Oper) (d : Nat), ops[e.on]? = some o' → o'.dst = some d → F e.on (a.tmps.getD d undef) w) →
      o.wp P a w (fun a' w' => ∃ v, a' = a.put o.dst v ∧ Below w.heap.size w w' ∧ F i v w') Q)
    (hend : ∀ (a : Act) (w : World), Below W.heap.size W w → a.defers = a0.defers → a.tmps.size = a0.tmps.size → (∀ s : Nat, (∀ (i : Nat) (o : Oper), ops[i]? = some o → o.dst ≠ some s) → a.tmps[s]? = a0.tmps[s]?) →
      (∀ (i : Nat) (o : Oper) (d : Nat), ops[i]? = some o → o.dst = some d → F i (a.tmps.getD d undef) w) → Q .normal a w) : (Code.region id ops true).wp P Q a0 W :=
  wp_region_any hm (wpAny_mid hb hd hF hstep hend ops.size _ _ _ (by simp) (Nat.le_trans (List.length_filter_le _ _) (by simp)) ⟨⟨rfl, rfl, rfl, Nat.le_refl _, fun _ _ => rfl⟩, rfl, rfl, fun _ _ => rfl, fun i o d ho _ hl => by
    exfalso
    simp [Array.getD] at hl⟩)

/-- The frame behind the region, out of the one ahead of it. -/
def laid (a : Act) (l : List Oper) (t : Array Value) : Array Value := l.foldl (fun t o => match o.dst with | some d => t.setIfInBounds d (a.tmps.getD d undef) | none => t) t
theorem laid_get (a : Act) (l : List Oper) (t : Array Value) (s : Nat) (ht : t.size = a.tmps.size) : (laid a l t)[s]? = if (∃ o ∈ l, o.dst = some s) ∧ s < t.size then a.tmps[s]? else t[s]? := by
  induction l generalizing t with
  | nil => simp [laid]
  | cons o r ih =>
    unfold laid at ih ⊢
    rw [List.foldl_cons]
    cases hd : o.dst with
    | none =>
      rw [ih _ ht]
      simp [hd]
    | some d =>
      simp only
      rw [ih _ (by simpa using ht)]
      simp only [Array.size_setIfInBounds, List.mem_cons, exists_eq_or_imp, hd, Option.some.injEq]
      by_cases h1 : (∃ o ∈ r, o.dst = some s) ∧ s < t.size
      · rw [if_pos h1, if_pos ⟨.inr h1.1, h1.2⟩]
      · rw [if_neg h1]
        by_cases h2 : d = s
        · subst h2
          by_cases h3 : d < t.size
          · rw [if_pos ⟨.inl rfl, h3⟩]
            have h4 : d < a.tmps.size := by rw [← ht]; exact h3
            simp [h3, h4]
          · rw [if_neg (fun h => h3 h.2)]
            simp [Array.setIfInBounds, h3]
        · rw [Array.getElem?_setIfInBounds_ne h2, if_neg]
          rintro ⟨h | h, h3⟩
          · exact h2 h
          · exact h1 ⟨h, h3⟩
theorem rebuild {ops : Array Oper} {a0 a : Act} (hs : a.tmps.size = a0.tmps.size) (hbase : ∀ s : Nat, (∀ (i : Nat) (o : Oper), ops[i]? = some o → o.dst ≠ some s) → a.tmps[s]? = a0.tmps[s]?) : a.tmps = laid a ops.toList a0.tmps := by
  apply Array.ext_getElem?
  intro s
  rw [laid_get a ops.toList a0.tmps s hs.symm]
  by_cases h : ∃ o ∈ ops.toList, o.dst = some s
  · by_cases h2 : s < a0.tmps.size
    · rw [if_pos ⟨h, h2⟩]
    · rw [if_neg (fun hh => h2 hh.2), Array.getElem?_eq_none (by omega), Array.getElem?_eq_none (by omega)]
  · rw [if_neg (fun hh => h hh.1)]
    refine hbase s fun i o ho hd => h ⟨o, ?_, hd⟩
    rw [Array.mem_toList_iff]
    exact Array.mem_of_getElem? ho
end Go.Proofs.Ytadnijagechkcaa
