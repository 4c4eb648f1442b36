/- Rows of pieces of one's own; the maker of an edit. -/
import Derived.Test.YtciedipihfkbbaaEg
import Derived.Deep.RegionLaw
import Derived.Lib.OwnKind
import Derived.Lib.SmallJoins
namespace Go.Proofs.Ytciedipihfkbbaa
open Go.RowKit

def Pc.cells (p : Pc) : List Value := [.int .i64 p.keep, .int .i64 p.drop, .string p.put]
def PcCells : List Pc → List Value
  | [] => []
  | p :: t => .int .i64 p.keep :: .int .i64 p.drop :: .string p.put :: PcCells t
theorem PcCells_len (l : List Pc) : (PcCells l).length = l.length * 3 := by
  induction l with
  | nil => rfl
  | cons p t ih => simp only [PcCells, List.length_cons, ih]; omega
theorem PcCells_append (l m : List Pc) : PcCells (l ++ m) = PcCells l ++ PcCells m := by
  induction l with
  | nil => rfl
  | cons p t ih => simp only [List.cons_append, PcCells, ih]
theorem PcCells_at (l : List Pc) (j : Nat) (h : j < l.length) : (PcCells l)[j * 3]? = some (.int .i64 l[j].keep) ∧ (PcCells l)[j * 3 + 1]? = some (.int .i64 l[j].drop) ∧ (PcCells l)[j * 3 + 2]? = some (.string l[j].put) := by
  induction l generalizing j with
  | nil => simp at h
  | cons p t ih =>
    cases j with
    | zero => simp [PcCells]
    | succ j =>
      have := ih j (by simpa using h)
      rw [show (j + 1) * 3 = j * 3 + 3 by omega]
      simpa [PcCells] using this
theorem PcCells_put (l : List Pc) (j : Nat) (h : j < l.length) (s : ByteArray) : (PcCells l).set (j * 3 + 2) (.string s) = PcCells (l.set j ⟨l[j].keep, l[j].drop, s⟩) := by
  induction l generalizing j with
  | nil => simp at h
  | cons p t ih =>
    cases j with
    | zero => simp [PcCells]
    | succ j =>
      have := ih j (by simpa using h)
      rw [show (j + 1) * 3 + 2 = j * 3 + 2 + 3 by omega]
      simpa [PcCells] using this
theorem PcCells_drop (l : List Pc) (j : Nat) (h : j < l.length) (n : Int) : (PcCells l).set (j * 3 + 1) (.int .i64 n) = PcCells (l.set j ⟨l[j].keep, n, l[j].put⟩) := by
  induction l generalizing j with
  | nil => simp at h
  | cons p t ih =>
    cases j with
    | zero => simp [PcCells]
    | succ j =>
      have := ih j (by simpa using h)
      rw [show (j + 1) * 3 + 1 = j * 3 + 1 + 3 by omega]
      simpa [PcCells] using this
theorem PcCells_one (l : List Pc) : ∀ u ∈ PcCells l, u.oneCell' = true := by
  induction l with
  | nil => simp [PcCells]
  | cons p t ih =>
    intro u hu
    simp only [PcCells, List.mem_cons] at hu
    rcases hu with rfl | rfl | rfl | hu
    · rfl
    · rfl
    · rfl
    · exact ih u hu

/-- A row of pieces of one's own. -/
def OwnP (base : Nat) (w : World) (v : Value) (l : List Pc) : Prop := w.ownsRow base 35 3 v l.length (PcCells l)
theorem OwnP.nil (base : Nat) (w : World) : OwnP base w (.slice none 0 0) [] := World.ownsRow_nil w base _ 3
theorem OwnP.below {base : Nat} {w w' : World} {v : Value} {l : List Pc} (h : OwnP base w v l) (hb : Below w.heap.size w w') : OwnP base w' v l :=
  World.ownsRow.kept h (row := none) ⟨hb.os, hb.tape, hb.output, hb.size, fun k hk _ => hb.block k hk⟩ (by cases v.ownBlock <;> simp)
theorem OwnP.mono {base base' : Nat} {w : World} {v : Value} {l : List Pc} (h : OwnP base w v l) (hb : base' ≤ base) : OwnP base' w v l := Joins.ownsRow_le h hb
theorem OwnP.not_block {base : Nat} {w : World} {v : Value} {l : List Pc} (h : OwnP base w v l) {g : Nat} {T : TypeId} {cs : List Value} (hg : Bk w g T cs) (hT : T ≠ 35) : v.ownBlock ≠ some g := by
  intro e
  obtain ⟨c, fz, hc⟩ := Lib.ownsRow_kind h g e
  unfold Bk at hg
  rw [hg] at hc
  injection hc with hc
  injection hc with _ hc
  exact hT hc
/-- The bounds that a row of pieces keeps. -/
def Fit (l : List Pc) : Prop := ∀ p ∈ l, -9223372036854775808 ≤ p.keep ∧ p.keep ≤ 9223372036854775807 ∧ -9223372036854775808 ≤ p.drop ∧ p.drop ≤ 9223372036854775807 ∧ p.put.size ≤ 9223372036854775807
theorem OwnP.rd {base : Nat} {w : World} {v : Value} {l : List Pc} (h : OwnP base w v l) (hf : Fit l) : RdP w v l := by
  obtain ⟨-, a, cap, rfl, h2, h3, h4, h5⟩ := Rdc.of_own h
  refine ⟨a, cap, rfl, h2, h3, h4, fun j hj => ?_⟩
  obtain ⟨c1, c2, c3⟩ := PcCells_at l j hj
  obtain ⟨b, o, rfl, e1⟩ := h5 _ _ c1
  obtain ⟨b2, o2, e, e2⟩ := h5 _ _ c2
  cases e
  obtain ⟨b3, o3, e, e3⟩ := h5 _ _ c3
  cases e
  exact ⟨b, o, rfl, e1, e2, e3, hf _ (List.getElem_mem hj)⟩

theorem pc_info : (Try.prog.info? 35).map (fun i => (i.zero, i.size, i.bytes)) = some (some (.agg #[.int .i64 0, .int .i64 0, .string ⟨#[]⟩]), 3, 32) := by kernel_rfl

/-- An append of pieces onto a row of one's own, as one step of a drawn region. -/
theorem step_appP {ops : Array Oper} {o : Oper} {a : Act} {w : World} {K : Act → World → Prop} {Q : Exit → Act → World → Prop} {E : Prop} (hgd : o.guard = none) (s x : Operand)
    (ho : o.op = .call { callee := .builtin .append, args := #[s, x], argTypes := #[24, 24] })
    (base : Nat) (v : Value) (l : List Pc) (hs : a.eval s = v) (hown : OwnP base w v l) (u : Value) (m : List Pc) (hx : a.eval x = u) (hr : Rdc w 3 u m.length (PcCells m))
    (hb : l.length + m.length ≤ 1000000) (hbase : base ≤ w.heap.size)
    (h : ∀ v' w', OwnP base w' v' (l ++ m) → w.grownBy w' v.ownBlock → (v'.ownBlock = v.ownBlock ∨ v'.ownBlock = some w.heap.size) → K (a.put o.dst v') w') :
    if Region.wanted o (yielded ops a.tmps) = true then o.wp Try.prog a w K Q else E := by
  rw [if_pos (by simp [Region.wanted, hgd])]
  exact wp_app s x _ ho base 35 _ 3 32 Try.underlying24 pc_info rfl (by omega) v l.length _ hs hown u m.length _ hx hr (PcCells_one m) (by unfold maxLen; omega) (by omega) hbase
    fun v' w' h2 h3 _ h5 => h v' w' (by unfold OwnP; rw [List.length_append, PcCells_append]; exact h2) h3 h5
/-- The same, in a plain walk. -/
theorem wpList_appP {w : World} {ops : Array Oper} {rest : List Oper} {o : Oper} {a : Act} {Q : Exit → Act → World → Prop} (hgd : o.guard = none) (s x : Operand)
    (ho : o.op = .call { callee := .builtin .append, args := #[s, x], argTypes := #[24, 24] })
    (base : Nat) (v : Value) (l : List Pc) (hs : a.eval s = v) (hown : OwnP base w v l) (u : Value) (m : List Pc) (hx : a.eval x = u) (hr : Rdc w 3 u m.length (PcCells m))
    (hb : l.length + m.length ≤ 1000000) (hbase : base ≤ w.heap.size)
    (h : ∀ v' w', OwnP base w' v' (l ++ m) → w.grownBy w' v.ownBlock → (v'.ownBlock = v.ownBlock ∨ v'.ownBlock = some w.heap.size) → wpList Try.prog ops Q rest (a.put o.dst v') w') : wpList Try.prog ops Q (o :: rest) a w :=
  wpList_app hgd s x _ ho base 35 _ 3 32 Try.underlying24 pc_info rfl (by omega) v l.length _ hs hown u m.length _ hx hr (PcCells_one m) (by unfold maxLen; omega) (by omega) hbase
    fun v' w' h2 h3 _ h5 => h v' w' (by unfold OwnP; rw [List.length_append, PcCells_append]; exact h2) h3 h5
/-- A row of one piece, as it is laid for an append. -/
theorem RdcP.one (w : World) (p : Pc) : Rdc (w.alloc (.cells #[.int .i64 p.keep, .int .i64 p.drop, .string p.put] 35)) 3 (.slice (some ⟨w.heap.size, 0, none⟩) 1 1) [p].length (PcCells [p]) := by
  refine ⟨rfl, _, 1, rfl, by simp, by omega, fun h => by simp at h, fun j u hu => ⟨_, _, rfl, ?_⟩⟩
  have hk := (Bk.new w 35 (PcCells [p])).cell j
  rw [Nat.zero_add]
  exact hk.trans hu
end Go.Proofs.Ytciedipihfkbbaa
