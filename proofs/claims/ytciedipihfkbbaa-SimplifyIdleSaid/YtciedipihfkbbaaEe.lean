/- The block of an operation that is handed over by value; the law's own bound. -/
import Derived.Test.YtciedipihfkbbaaEd
namespace Go.Proofs.Ytciedipihfkbbaa
open Go.RowKit

def OpV.cells (o : OpV) (p t q : Value) : List Value := [.int .u8 o.kind, p, .int .i64 o.gap, t, .int .u64 o.id, .bool o.leaf, .string o.label, .string o.key, .string o.val, .bool o.gone, q]
/-- The block g holds the operation. -/
def Boxed (w : World) (g : Nat) (o : OpV) (p t q : Value) : Prop := Bk w g 26 (o.cells p t q)
theorem Boxed.new (w : World) (o : OpV) (p t q : Value) : Boxed (w.alloc (.cells #[.int .u8 o.kind, p, .int .i64 o.gap, t, .int .u64 o.id, .bool o.leaf, .string o.label, .string o.key, .string o.val, .bool o.gone, q] 26)) w.heap.size o p t q := Bk.new w _ (o.cells p t q)
theorem Boxed.below {w w' : World} {g : Nat} {o : OpV} {p t q : Value} (h : Boxed w g o p t q) (hb : Below w.heap.size w w') : Boxed w' g o p t q := Bk.below h hb (Bk.lt h)
theorem Boxed.c {w : World} {g : Nat} {o : OpV} {p t q : Value} (h : Boxed w g o p t q) : w.cell? ⟨g, 0, none⟩ = some (.int .u8 o.kind) ∧ w.cell? ⟨g, 1, none⟩ = some p ∧ w.cell? ⟨g, 2, none⟩ = some (.int .i64 o.gap) ∧ w.cell? ⟨g, 3, none⟩ = some t ∧ w.cell? ⟨g, 4, none⟩ = some (.int .u64 o.id) ∧ w.cell? ⟨g, 5, none⟩ = some (.bool o.leaf) ∧ w.cell? ⟨g, 6, none⟩ = some (.string o.label) ∧ w.cell? ⟨g, 7, none⟩ = some (.string o.key) ∧ w.cell? ⟨g, 8, none⟩ = some (.string o.val) ∧ w.cell? ⟨g, 9, none⟩ = some (.bool o.gone) ∧ w.cell? ⟨g, 10, none⟩ = some q :=
  ⟨Bk.cell h 0, Bk.cell h 1, Bk.cell h 2, Bk.cell h 3, Bk.cell h 4, Bk.cell h 5, Bk.cell h 6, Bk.cell h 7, Bk.cell h 8, Bk.cell h 9, Bk.cell h 10⟩

/-- What stands behind the boxing: the rows read, the block holds, all else is as it was. -/
structure Held (w : World) (w1 : World) (o : OpV) (p t q : Value) : Prop where
  box : Boxed w1 w.heap.size o p t q
  path : Rd w1 p o.path
  to : Rd w1 t o.to
  pieces : RdP w1 q o.pieces
  fits : o.Fits
  bel : Below w.heap.size w w1
theorem Held.new {w : World} {o : OpV} {p t q : Value} (h1 : Rd w p o.path) (h2 : Rd w t o.to) (h3 : RdP w q o.pieces) (hF : o.Fits) :
    Held w (w.alloc (.cells #[.int .u8 o.kind, p, .int .i64 o.gap, t, .int .u64 o.id, .bool o.leaf, .string o.label, .string o.key, .string o.val, .bool o.gone, q] 26)) o p t q :=
  ⟨Boxed.new .., h1.alloc _, h2.alloc _, h3.alloc _, hF, bAl (Below.refl _ _) _⟩
theorem Held.next {w w1 w2 : World} {o : OpV} {p t q : Value} (h : Held w w1 o p t q) (hb : Below w1.heap.size w1 w2) : Held w w2 o p t q :=
  ⟨h.box.below hb, h.path.below hb, h.to.below hb, h.pieces.below hb, h.fits, bNext h.bel hb⟩
theorem Held.qt {w w1 w2 : World} {o : OpV} {p t q : Value} (h : Held w w1 o p t q) (hb : Qt w1 w2) : Held w w2 o p t q := h.next (hb.below _)
theorem Held.op {w w1 : World} {o : OpV} {p t q : Value} (h : Held w w1 o p t q) : RdO w1 (o.at_ p t q) o := ⟨p, t, q, rfl, h.path, h.to, h.pieces, h.fits⟩

/-- The law's own bound of an operation. -/
def lawLight (o : OpV) : Bool := lightB o 200 && smallB o.pieces 300
theorem lawLight_any (v : Value) (o : OpV) (w : World) (h : RdO w v o) :
    Calls Try.prog 8 #[v] w fun e w' => e = .returned (.bool (lawLight o)) ∧ Below w.heap.size w w' := by
  obtain ⟨p, t, q, rfl, h1, h2, h3, hF⟩ := h
  have H1 := Lib.hid (Held.new h1 h2 h3 hF)
  clear h1 h2 h3 hF
  have HL := Lib.hid (show lawLight o = (lightB o 200 && smallB o.pieces 300) from rfl)
  unfold OpV.at_
  go_enter Try.func8, Try.ntmps8
  go_wp2_with fail
  go_at_call 24
  refine (light_any _ _ _ _ H1.out.op (by omega) (by omega)).mono ?_
  rintro e w1 ⟨rfl, hb1⟩
  have H2 := Lib.hid (H1.out.next hb1)
  clear hb1
  obtain ⟨e0, e1, e2, e3, e4, e5, e6, e7, e8, e9, e10⟩ := H2.out.box.c
  by_cases c1 : lightB o 200 = true
  · rw [c1] at HL ⊢
    go_wp2_with fail
    go_at_call 25
    refine (small_any _ _ _ _ H2.out.pieces (by omega) (by omega)).mono ?_
    rintro e w3 ⟨rfl, hb3⟩
    have H3 := Lib.hid (H2.out.qt hb3)
    clear hb3
    go_wp2_with fail
    go_ret
    exact ⟨ret_bool (by rw [HL.out]; simp), H3.out.bel⟩
  · rw [Bool.not_eq_true] at c1
    rw [c1] at HL ⊢
    go_wp2_with fail
    go_ret
    exact ⟨ret_bool (by rw [HL.out]; simp), H2.out.bel⟩
end Go.Proofs.Ytciedipihfkbbaa
