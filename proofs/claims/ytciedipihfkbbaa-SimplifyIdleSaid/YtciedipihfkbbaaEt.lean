/- Two operations made fewer: the program's answer. -/
import Derived.Test.YtciedipihfkbbaaEs
namespace Go.Proofs.Ytciedipihfkbbaa
open Go.RowKit

/-- What stands instead of two operations; none: they stay. C: what two edits do one behind the other. -/
def pairV (C : List Pc → List Pc → Option (List Pc)) (a b : OpV) : Option (List OpV) :=
  if busyB a = false ∨ busyB b = false then none
  else if a.kind = 1 ∧ a.path ++ [a.gap] = b.path ∧ b.kind = 2 then some []
  else if a.kind = 1 ∧ a.path ++ [a.gap] = b.path ∧ b.kind = 5 then some [bareV { a with label := b.label }]
  else if a.kind ≠ b.kind ∨ a.path ≠ b.path then none
  else if a.kind = 5 then some [bareV b]
  else if a.kind = 4 then (if a.key = b.key then some [bareV b] else none)
  else if a.kind = 6 then (match C a.pieces b.pieces with | none => none | some l => if l = [] then some [] else some [bareV { b with pieces := l }])
  else none

section
variable {C : List Pc → List Pc → Option (List Pc)} {a b : OpV}
theorem pair_idle (h : busyB a = false ∨ busyB b = false) : pairV C a b = none := by rw [pairV, if_pos h]
theorem pair_drop (h1 : busyB a = true) (h2 : busyB b = true) (h3 : a.kind = 1) (h4 : a.path ++ [a.gap] = b.path) (h5 : b.kind = 2) : pairV C a b = some [] := by
  rw [pairV, if_neg (by simp [h1, h2]), if_pos ⟨h3, h4, h5⟩]
theorem pair_label (h1 : busyB a = true) (h2 : busyB b = true) (h3 : a.kind = 1) (h4 : a.path ++ [a.gap] = b.path) (h5 : b.kind = 5) : pairV C a b = some [bareV { a with label := b.label }] := by
  rw [pairV, if_neg (by simp [h1, h2]), if_neg (by omega), if_pos ⟨h3, h4, h5⟩]
theorem pair_apart (h1 : busyB a = true) (h2 : busyB b = true) (h3 : ¬ (a.kind = 1 ∧ a.path ++ [a.gap] = b.path ∧ (b.kind = 2 ∨ b.kind = 5))) (h : a.kind ≠ b.kind ∨ a.path ≠ b.path) : pairV C a b = none := by
  rw [pairV, if_neg (by simp [h1, h2]), if_neg (fun ⟨x, y, z⟩ => h3 ⟨x, y, .inl z⟩), if_neg (fun ⟨x, y, z⟩ => h3 ⟨x, y, .inr z⟩), if_pos h]
theorem pair_same (h1 : busyB a = true) (h2 : busyB b = true) (h3 : a.kind = b.kind) (h4 : a.path = b.path) :
    pairV C a b = if a.kind = 5 then some [bareV b]
      else if a.kind = 4 then (if a.key = b.key then some [bareV b] else none)
      else if a.kind = 6 then (match C a.pieces b.pieces with | none => none | some l => if l = [] then some [] else some [bareV { b with pieces := l }])
      else none := by
  rw [pairV, if_neg (by simp [h1, h2]), if_neg (by omega), if_neg (by omega), if_neg (by simp [h3, h4])]
theorem pair_five (h1 : busyB a = true) (h2 : busyB b = true) (h3 : a.kind = b.kind) (h4 : a.path = b.path) (h : a.kind = 5) : pairV C a b = some [bareV b] := by
  rw [pair_same h1 h2 h3 h4, if_pos h]
theorem pair_four (h1 : busyB a = true) (h2 : busyB b = true) (h3 : a.kind = b.kind) (h4 : a.path = b.path) (h : a.kind = 4) : pairV C a b = if a.key = b.key then some [bareV b] else none := by
  rw [pair_same h1 h2 h3 h4, if_neg (by omega), if_pos h]
theorem pair_six (h1 : busyB a = true) (h2 : busyB b = true) (h3 : a.kind = b.kind) (h4 : a.path = b.path) (h : a.kind = 6) :
    pairV C a b = (match C a.pieces b.pieces with | none => none | some l => if l = [] then some [] else some [bareV { b with pieces := l }]) := by
  rw [pair_same h1 h2 h3 h4, if_neg (by omega), if_neg (by omega), if_pos h]
theorem pair_else (h1 : busyB a = true) (h2 : busyB b = true) (h3 : a.kind = b.kind) (h4 : a.path = b.path) (h : ¬ a.kind = 4 ∧ ¬ a.kind = 5 ∧ ¬ a.kind = 6) : pairV C a b = none := by
  rw [pair_same h1 h2 h3 h4, if_neg (by omega), if_neg (by omega), if_neg (by omega)]
end

/-- How long rows may be that are copied. -/
def Lim (o : OpV) : Prop := o.path.length ≤ 100000 ∧ o.to.length ≤ 100000 ∧ o.pieces.length ≤ 100000

/-- What two edits do one behind the other is handed back, or an error. -/
def GivesC (x : Option (List Pc)) (w : World) (e : Ending) (w' : World) : Prop := ∃ r err, e = .returned (.tuple #[r, .int .i64 err]) ∧ decide (err = 0) = x.isSome ∧ OwnP w.heap.size w' r (x.getD []) ∧ Below w.heap.size w w'
/-- C is what Compose tells of two edits. -/
structure CompAt (F : FuncId) (C : List Pc → List Pc → Option (List Pc)) (l m : List Pc) : Prop where
  call : ∀ v u w, RdP w v l → RdP w u m → Calls Try.prog F #[v, u] w (GivesC (C l m) w)
  lim : ∀ x, C l m = some x → x.length ≤ 100000 ∧ Fit x

/-- The operations that stand instead of two, and whether they do. -/
def GivesPair (x : Option (List OpV)) (w : World) (e : Ending) (w' : World) : Prop := ∃ r, e = .returned (.tuple #[r, .bool x.isSome]) ∧ OwnOs w.heap.size w' r (x.getD []) ∧ Below w.heap.size w w'

/-- Two operations behind their boxing. -/
structure Two (w W : World) (a b : OpR) : Prop where
  ba : Boxed W w.heap.size a.o a.p a.t a.q
  bb : Boxed W (w.heap.size + 1) b.o b.p b.t b.q
  ca : Came W a.o a.p a.t a.q
  cb : Came W b.o b.p b.t b.q
  bel : Below w.heap.size w W
theorem Two.next {w W W' : World} {a b : OpR} (h : Two w W a b) (hb : Below W.heap.size W W') : Two w W' a b := ⟨h.ba.below hb, h.bb.below hb, h.ca.below hb, h.cb.below hb, bNext h.bel hb⟩
theorem Two.qt {w W W' : World} {a b : OpR} (h : Two w W a b) (hb : Qt W W') : Two w W' a b := h.next (hb.below _)
theorem Two.opA {w W : World} {a b : OpR} (h : Two w W a b) : RdO W (a.o.at_ a.p a.t a.q) a.o := ⟨_, _, _, rfl, h.ca.path, h.ca.to, h.ca.pieces, h.ca.fits⟩
theorem Two.opB {w W : World} {a b : OpR} (h : Two w W a b) : RdO W (b.o.at_ b.p b.t b.q) b.o := ⟨_, _, _, rfl, h.cb.path, h.cb.to, h.cb.pieces, h.cb.fits⟩
theorem Two.new {w : World} {a b : OpR} (ha : Came w a.o a.p a.t a.q) (hb : Came w b.o b.p b.t b.q) :
    Two w ((w.alloc (.cells #[.int .u8 a.o.kind, a.p, .int .i64 a.o.gap, a.t, .int .u64 a.o.id, .bool a.o.leaf, .string a.o.label, .string a.o.key, .string a.o.val, .bool a.o.gone, a.q] 26)).alloc
      (.cells #[.int .u8 b.o.kind, b.p, .int .i64 b.o.gap, b.t, .int .u64 b.o.id, .bool b.o.leaf, .string b.o.label, .string b.o.key, .string b.o.val, .bool b.o.gone, b.q] 26)) a b := by
  have h1 := Boxed.new w a.o a.p a.t a.q
  have k1 := bAl (Below.refl w.heap.size w) (.cells #[.int .u8 a.o.kind, a.p, .int .i64 a.o.gap, a.t, .int .u64 a.o.id, .bool a.o.leaf, .string a.o.label, .string a.o.key, .string a.o.val, .bool a.o.gone, a.q] 26)
  refine ⟨h1.below (bAl (Below.refl _ _) _), ?_, (ha.below k1).below (bAl (Below.refl _ _) _), (hb.below k1).below (bAl (Below.refl _ _) _), bAl k1 _⟩
  have := Boxed.new (w.alloc (.cells #[.int .u8 a.o.kind, a.p, .int .i64 a.o.gap, a.t, .int .u64 a.o.id, .bool a.o.leaf, .string a.o.label, .string a.o.key, .string a.o.val, .bool a.o.gone, a.q] 26)) b.o b.p b.t b.q
  simpa using this
theorem Two.label {w W : World} {a b : OpR} (h : Two w W a b) (h0 : Came w a.o a.p a.t a.q) (h1 : Came w b.o b.p b.t b.q) : Two w (W.setCell ⟨w.heap.size, 6, none⟩ (.string b.o.label)) ⟨{ a.o with label := b.o.label }, a.p, a.t, a.q⟩ b := by
  have hb : Below w.heap.size w (W.setCell ⟨w.heap.size, 6, none⟩ (.string b.o.label)) := h.bel.setCell (Nat.le_refl _) _
  refine ⟨Bk.set_ h.ba 6 _, bkSet h.bb (by omega), ⟨(h0.below hb).path, (h0.below hb).to, (h0.below hb).pieces, ?_⟩, h1.below hb, hb⟩
  obtain ⟨k0, k1, g0, g1, l1, l2, l3⟩ := h0.fits
  exact ⟨k0, k1, g0, g1, h1.fits.l1, l2, l3⟩

theorem lim_bare {o : OpV} (h : Lim o) : Lim (bareV o) := by
  obtain ⟨h1, h2, h3⟩ := h
  unfold bareV
  split
  · exact ⟨h1, by simp, by simp⟩
  split
  · exact ⟨h1, by simp, by simp⟩
  split
  · exact ⟨h1, h2, by simp⟩
  split
  · exact ⟨h1, by simp, by simp⟩
  split
  · exact ⟨h1, by simp, by simp⟩
  split
  · exact ⟨h1, by simp, h3⟩
  · exact ⟨by simp, by simp, by simp⟩
theorem bare_fit {o : OpV} (h : Fit o.pieces) : Fit (bareV o).pieces := by
  rcases kinds o with hk | hk | hk | hk | hk | hk | hk
  · rw [bare1 hk]; intro p hp; cases hp
  · rw [bare2 hk]; intro p hp; cases hp
  · rw [bare3 hk]; intro p hp; cases hp
  · rw [bare4 hk]; intro p hp; cases hp
  · rw [bare5 hk]; intro p hp; cases hp
  · rw [bare6 hk]; exact h
  · rw [bare0 hk]; intro p hp; cases hp
theorem bare_fits {o : OpV} (h : o.Fits) : (bareV o).Fits := by
  obtain ⟨k0, k1, g0, g1, l1, l2, l3⟩ := h
  have hz : (⟨#[]⟩ : ByteArray).size ≤ 9223372036854775807 := by decide
  rcases kinds o with hk | hk | hk | hk | hk | hk | hk
  · rw [bare1 hk]; exact ⟨by simp, by simp, g0, g1, l1, hz, hz⟩
  · rw [bare2 hk]; exact ⟨by simp, by simp, by simp, by simp, hz, hz, hz⟩
  · rw [bare3 hk]; exact ⟨by simp, by simp, g0, g1, hz, hz, hz⟩
  · rw [bare4 hk]; exact ⟨by simp, by simp, by simp, by simp, hz, l2, by dsimp only; split <;> assumption⟩
  · rw [bare5 hk]; exact ⟨by simp, by simp, by simp, by simp, l1, hz, hz⟩
  · rw [bare6 hk]; exact ⟨by simp, by simp, by simp, by simp, hz, hz, hz⟩
  · rw [bare0 hk]; exact ⟨k0, k1, by simp, by simp, hz, hz, hz⟩
theorem fit_rd {w : World} {v : Value} {l : List Pc} (h : RdP w v l) : Fit l := by
  obtain ⟨a, cap, rfl, h1, h2, h3, h4⟩ := h
  intro p hp
  obtain ⟨j, hj, rfl⟩ := List.getElem_of_mem hp
  obtain ⟨b, o, -, -, -, -, h⟩ := h4 j hj
  exact h
end Go.Proofs.Ytciedipihfkbbaa
