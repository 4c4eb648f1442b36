/- Rows of operations: read, and of one's own. -/
import Derived.Test.YtciedipihfkbbaaEr
namespace Go.Proofs.Ytciedipihfkbbaa
open Go.RowKit

/-- An operation and the values of its rows. -/
structure OpR where
  o : OpV
  p : Value
  t : Value
  q : Value
def OpR.cells (r : OpR) : List Value := r.o.cells r.p r.t r.q
theorem OpR.cells_len (r : OpR) : r.cells.length = 11 := rfl
def OsCells : List OpR → List Value
  | [] => []
  | r :: l => r.cells ++ OsCells l
theorem OsCells_len (l : List OpR) : (OsCells l).length = l.length * 11 := by
  induction l with
  | nil => rfl
  | cons r l ih => simp only [OsCells, List.length_append, OpR.cells_len, List.length_cons, ih]; omega
theorem OsCells_append (l m : List OpR) : OsCells (l ++ m) = OsCells l ++ OsCells m := by
  induction l with
  | nil => rfl
  | cons r l ih => simp only [List.cons_append, OsCells, ih, List.append_assoc]
theorem OsCells_at (l : List OpR) (k : Nat) (hk : k < l.length) (i : Nat) (hi : i < 11) : (OsCells l)[k * 11 + i]? = l[k].cells[i]? := by
  induction l generalizing k with
  | nil => simp at hk
  | cons r l ih =>
    cases k with
    | zero => rw [OsCells, List.getElem?_append_left (by rw [OpR.cells_len]; omega)]; simp
    | succ k =>
      rw [OsCells, List.getElem?_append_right (by rw [OpR.cells_len]; omega), OpR.cells_len, show (k + 1) * 11 + i - 11 = k * 11 + i by omega]
      exact ih k (by simpa using hk)
theorem OsCells_one (l : List OpR) (h : ∀ r ∈ l, r.p.oneCell' = true ∧ r.t.oneCell' = true ∧ r.q.oneCell' = true) : ∀ u ∈ OsCells l, u.oneCell' = true := by
  induction l with
  | nil => simp [OsCells]
  | cons r l ih =>
    intro u hu
    rw [OsCells, List.mem_append] at hu
    rcases hu with hu | hu
    · obtain ⟨h1, h2, h3⟩ := h r (by simp)
      simp only [OpR.cells, OpV.cells, List.mem_cons, List.not_mem_nil, or_false] at hu
      rcases hu with rfl | rfl | rfl | rfl | rfl | rfl | rfl | rfl | rfl | rfl | rfl <;> first | rfl | assumption
    · exact ih (fun r hr => h r (by simp [hr])) u hu

theorem Came.below {w w' : World} {o : OpV} {p t q : Value} (h : Came w o p t q) (hb : Below w.heap.size w w') : Came w' o p t q := ⟨h.path.below hb, h.to.below hb, h.pieces.below hb, h.fits⟩

/-- The slice value reads as the list of operations. -/
def RdOs (w : World) (v : Value) (l : List OpV) : Prop := ∃ rs : List OpR, rs.map (·.o) = l ∧ Rdc w 11 v rs.length (OsCells rs) ∧ ∀ r ∈ rs, Came w r.o r.p r.t r.q
theorem RdOs.below {w w' : World} {v : Value} {l : List OpV} (h : RdOs w v l) (hb : Below w.heap.size w w') : RdOs w' v l := by
  obtain ⟨rs, e, h1, h2⟩ := h
  exact ⟨rs, e, h1.below hb, fun r hr => (h2 r hr).below hb⟩

/-- The rows of an operation are one's own. -/
structure OwnR (base : Nat) (w : World) (r : OpR) : Prop where
  path : Own base w r.p r.o.path
  to : Own base w r.t r.o.to
  pieces : OwnP base w r.q r.o.pieces
  fit : Fit r.o.pieces
  fits : r.o.Fits
theorem OwnR.below {base : Nat} {w w' : World} {r : OpR} (h : OwnR base w r) (hb : Below w.heap.size w w') : OwnR base w' r := ⟨h.path.below hb, h.to.below hb, h.pieces.below hb, h.fit, h.fits⟩
theorem OwnR.mono {base base' : Nat} {w : World} {r : OpR} (h : OwnR base w r) (hb : base' ≤ base) : OwnR base' w r := ⟨h.path.mono hb, h.to.mono hb, h.pieces.mono hb, h.fit, h.fits⟩
theorem OwnR.came {base : Nat} {w : World} {r : OpR} (h : OwnR base w r) : Came w r.o r.p r.t r.q := ⟨h.path.rd, h.to.rd, h.pieces.rd h.fit, h.fits⟩
theorem Own.one {base : Nat} {w : World} {v : Value} {l : List Int} (h : Own base w v l) : v.oneCell' = true := by obtain ⟨a, c, rfl⟩ := ownForm h; rfl
theorem OwnP.one {base : Nat} {w : World} {v : Value} {l : List Pc} (h : OwnP base w v l) : v.oneCell' = true := by obtain ⟨a, c, rfl⟩ := h.form; rfl

/-- A row of operations of one's own, their rows, too. -/
def OwnOs (base : Nat) (w : World) (v : Value) (l : List OpV) : Prop :=
  ∃ rs : List OpR, rs.map (·.o) = l ∧ w.ownsRow base 26 11 v rs.length (OsCells rs) ∧ ∀ r ∈ rs, OwnR base w r
theorem OwnOs.nil (base : Nat) (w : World) : OwnOs base w (.slice none 0 0) [] := ⟨[], rfl, World.ownsRow_nil w base _ 11, fun r hr => by cases hr⟩
theorem OwnOs.below {base : Nat} {w w' : World} {v : Value} {l : List OpV} (h : OwnOs base w v l) (hb : Below w.heap.size w w') : OwnOs base w' v l := by
  obtain ⟨rs, e, h1, h2⟩ := h
  exact ⟨rs, e, World.ownsRow.kept h1 (row := none) ⟨hb.os, hb.tape, hb.output, hb.size, fun k hk _ => hb.block k hk⟩ (by cases v.ownBlock <;> simp), fun r hr => (h2 r hr).below hb⟩
theorem OwnOs.mono {base base' : Nat} {w : World} {v : Value} {l : List OpV} (h : OwnOs base w v l) (hb : base' ≤ base) : OwnOs base' w v l := by
  obtain ⟨rs, e, h1, h2⟩ := h
  exact ⟨rs, e, Joins.ownsRow_le h1 hb, fun r hr => (h2 r hr).mono hb⟩
theorem OwnOs.rd {base : Nat} {w : World} {v : Value} {l : List OpV} (h : OwnOs base w v l) : RdOs w v l := by
  obtain ⟨rs, e, h1, h2⟩ := h
  exact ⟨rs, e, Rdc.of_own h1, fun r hr => (h2 r hr).came⟩
theorem OwnOs.form {base : Nat} {w : World} {v : Value} {l : List OpV} (h : OwnOs base w v l) : ∃ a cap, v = .slice a l.length cap := by
  obtain ⟨rs, rfl, h1, h2⟩ := h
  rw [List.length_map]
  rcases Joins.ownsRow_forms h1 with ⟨rfl, h0⟩ | ⟨b, cap, rfl⟩
  · exact ⟨none, 0, by rw [h0]⟩
  · exact ⟨_, cap, rfl⟩
/-- A new row of one operation whose rows are one's own. -/
theorem OwnOs.single {base : Nat} {w : World} (hb : base ≤ w.heap.size) {o : OpV} {p t q : Value} (h1 : Own base w p o.path) (h2 : Own base w t o.to) (h3 : OwnP base w q o.pieces) (hf : Fit o.pieces) (hF : o.Fits) :
    OwnOs base (w.alloc (.cells #[.int .u8 o.kind, p, .int .i64 o.gap, t, .int .u64 o.id, .bool o.leaf, .string o.label, .string o.key, .string o.val, .bool o.gone, q] 26)) (.slice (some ⟨w.heap.size, 0, none⟩) 1 1) [o] := by
  refine ⟨[⟨o, p, t, q⟩], rfl, ?_, fun r hr => ?_⟩
  · exact World.ownsRow_lit (size := 11) w #[.int .u8 o.kind, p, .int .i64 o.gap, t, .int .u64 o.id, .bool o.leaf, .string o.label, .string o.key, .string o.val, .bool o.gone, q] 1 hb (by unfold maxLen; omega) rfl
  · rw [List.mem_singleton] at hr
    subst hr
    exact (OwnR.mk h1 h2 h3 hf hF).below (bAl (Below.refl _ _) _)
theorem OwnOs.cells_ne {base : Nat} {w : World} {v : Value} {l : List OpV} (h : OwnOs base w v l) {b : Nat} (hv : v.ownBlock = some b) {T : TypeId} {size n : Nat} {u : Value} {xs : List Value} {B : Nat} (hu : w.ownsRow B T size u n xs) (hT : T ≠ 26) : u.ownBlock ≠ some b := by
  obtain ⟨rs, e, h1, h2⟩ := h
  intro e
  obtain ⟨c, fz, hc⟩ := Lib.ownsRow_kind h1 b hv
  obtain ⟨c', fz', hc'⟩ := Lib.ownsRow_kind hu b e
  rw [hc] at hc'
  injection hc' with hc'
  injection hc' with _ hc'
  exact hT hc'.symm
/-- What an append onto the row of operations leaves of the rows of an operation. -/
theorem OwnR.grown {base : Nat} {w w' : World} {v : Value} {l : List OpV} (h : OwnOs base w v l) (hg : w.grownBy w' v.ownBlock) {B : Nat} {r : OpR} (hr : OwnR B w r) : OwnR B w' r := by
  cases hv : v.ownBlock with
  | none => rw [hv] at hg; exact ⟨hr.path.kept hg (by cases r.p.ownBlock <;> simp), hr.to.kept hg (by cases r.t.ownBlock <;> simp), hr.pieces.kept hg (by cases r.q.ownBlock <;> simp), hr.fit, hr.fits⟩
  | some b =>
    rw [hv] at hg
    exact ⟨hr.path.kept hg (.inr (h.cells_ne hv hr.path (by decide))), hr.to.kept hg (.inr (h.cells_ne hv hr.to (by decide))), hr.pieces.kept hg (.inr (h.cells_ne hv hr.pieces (by decide))), hr.fit, hr.fits⟩
theorem OwnOs.take {base : Nat} {w : World} {a : Option Addr} {n cap : Nat} {l m : List OpV} (h : OwnOs base w (.slice a n cap) (l ++ m)) (ha : a ≠ none) : OwnOs base w (.slice a l.length cap) l := by
  obtain ⟨rs, e, ⟨h0, h1⟩, h2⟩ := h
  have hlen : (rs.take l.length).map (·.o) = l := by rw [List.map_take, e, List.take_left]
  have hll : (rs.take l.length).length = l.length := by rw [← List.length_map (f := fun r : OpR => r.o), hlen]
  have hsplit : OsCells rs = OsCells (rs.take l.length) ++ OsCells (rs.drop l.length) := by rw [← OsCells_append, List.take_append_drop]
  refine ⟨rs.take l.length, hlen, ⟨OsCells_len _, .inr ?_⟩, fun r hr => h2 r (List.mem_of_mem_take hr)⟩
  rcases h1 with ⟨e1, -⟩ | ⟨g, cap', cur, e1, h3, h4, h5, h6, h7, h8⟩
  · injection e1 with e1; exact absurd e1 ha
  · obtain ⟨rfl, rfl, rfl⟩ := Value.slice.inj e1
    have hle : l.length ≤ rs.length := by have := congrArg List.length e; simp at this; omega
    refine ⟨g, cap, cur, by rw [hll], h3, h4, by rw [hll]; omega, h6, h7, ?_⟩
    rw [hll]
    have : (cur.toList.take (rs.length * 11)).take (l.length * 11) = (OsCells rs).take (l.length * 11) := by rw [h8]
    rw [List.take_take, Nat.min_eq_left (by omega)] at this
    rw [this, hsplit, List.take_append_of_le_length (by rw [OsCells_len, hll]; omega), List.take_of_length_le (by rw [OsCells_len, hll]; omega)]

theorem op_info : (Try.prog.info? 26).map (fun i => (i.zero, i.size, i.bytes)) = some (some (.agg #[.int .u8 0, .slice none 0 0, .int .i64 0, .slice none 0 0, .int .u64 0, .bool false, .string ⟨#[]⟩, .string ⟨#[]⟩, .string ⟨#[]⟩, .bool false, .slice none 0 0]), 11, 160) := by kernel_rfl

/-- An append of operations onto a row of one's own. -/
theorem wpList_appO {w : World} {ops : Array Oper} {rest : List Oper} {o : Oper} {a : Act} {Q : Exit → Act → World → Prop} (hgd : o.guard = none) (s x : Operand)
    (ho : o.op = .call { callee := .builtin .append, args := #[s, x], argTypes := #[30, 30] })
    (base : Nat) (v : Value) (l : List OpV) (hs : a.eval s = v) (hown : OwnOs base w v l) (B : Nat) (u : Value) (m : List OpV) (hx : a.eval x = u) (hr : OwnOs B w u m) (hB : base ≤ B)
    (hb : l.length + m.length ≤ 1000000) (hbase : base ≤ w.heap.size)
    (h : ∀ v' w', OwnOs base w' v' (l ++ m) → w.grownBy w' v.ownBlock → (v'.ownBlock = v.ownBlock ∨ v'.ownBlock = some w.heap.size) → wpList Try.prog ops Q rest (a.put o.dst v') w') : wpList Try.prog ops Q (o :: rest) a w := by
  have hown0 := hown
  obtain ⟨rs, rfl, h1, h2⟩ := hown
  obtain ⟨ns, rfl, k1, k2⟩ := hr
  rw [List.length_map, List.length_map] at hb
  exact wpList_app hgd s x _ ho base 26 _ 11 160 Try.underlying30 op_info rfl (by omega) v rs.length _ hs h1 u ns.length _ hx (Rdc.of_own k1)
    (OsCells_one ns fun r hr => ⟨(k2 r hr).path.one, (k2 r hr).to.one, (k2 r hr).pieces.one⟩) (by unfold maxLen; omega) (by omega) hbase
    fun v' w' g2 g3 _ g5 => h v' w' ⟨rs ++ ns, by simp, by rw [List.length_append, OsCells_append]; exact g2, fun r hr => by
      rcases List.mem_append.1 hr with hr | hr
      · exact OwnR.grown hown0 g3 (h2 r hr)
      · exact (OwnR.grown hown0 g3 (k2 r hr)).mono hB⟩ g3 g5
end Go.Proofs.Ytciedipihfkbbaa
