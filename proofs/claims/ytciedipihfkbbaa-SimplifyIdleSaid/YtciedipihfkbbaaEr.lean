/- Bare operations: the program's. -/
import Derived.Test.YtciedipihfkbbaaEq
import Derived.Deep.RegionWith
import Derived.Deep.RegionHeld3
import Derived.Laws.Rows
namespace Go.Proofs.Ytciedipihfkbbaa
open Go.RowKit

def bareV (o : OpV) : OpV :=
  if o.kind = 1 then ⟨o.kind, o.path, o.gap, [], o.id, o.leaf, o.label, ⟨#[]⟩, ⟨#[]⟩, false, []⟩
  else if o.kind = 2 then ⟨o.kind, o.path, 0, [], 0, false, ⟨#[]⟩, ⟨#[]⟩, ⟨#[]⟩, false, []⟩
  else if o.kind = 3 then ⟨o.kind, o.path, o.gap, o.to, 0, false, ⟨#[]⟩, ⟨#[]⟩, ⟨#[]⟩, false, []⟩
  else if o.kind = 4 then ⟨o.kind, o.path, 0, [], 0, false, ⟨#[]⟩, o.key, if o.gone then ⟨#[]⟩ else o.val, o.gone, []⟩
  else if o.kind = 5 then ⟨o.kind, o.path, 0, [], 0, false, o.label, ⟨#[]⟩, ⟨#[]⟩, false, []⟩
  else if o.kind = 6 then ⟨o.kind, o.path, 0, [], 0, false, ⟨#[]⟩, ⟨#[]⟩, ⟨#[]⟩, false, o.pieces⟩
  else ⟨o.kind, [], 0, [], 0, false, ⟨#[]⟩, ⟨#[]⟩, ⟨#[]⟩, false, []⟩

theorem bare1 {o : OpV} (h : o.kind = 1) : bareV o = ⟨1, o.path, o.gap, [], o.id, o.leaf, o.label, ⟨#[]⟩, ⟨#[]⟩, false, []⟩ := by simp [bareV, h]
theorem bare2 {o : OpV} (h : o.kind = 2) : bareV o = ⟨2, o.path, 0, [], 0, false, ⟨#[]⟩, ⟨#[]⟩, ⟨#[]⟩, false, []⟩ := by simp [bareV, h]
theorem bare3 {o : OpV} (h : o.kind = 3) : bareV o = ⟨3, o.path, o.gap, o.to, 0, false, ⟨#[]⟩, ⟨#[]⟩, ⟨#[]⟩, false, []⟩ := by simp [bareV, h]
theorem bare4 {o : OpV} (h : o.kind = 4) : bareV o = ⟨4, o.path, 0, [], 0, false, ⟨#[]⟩, o.key, if o.gone then ⟨#[]⟩ else o.val, o.gone, []⟩ := by simp [bareV, h]
theorem bare5 {o : OpV} (h : o.kind = 5) : bareV o = ⟨5, o.path, 0, [], 0, false, o.label, ⟨#[]⟩, ⟨#[]⟩, false, []⟩ := by simp [bareV, h]
theorem bare6 {o : OpV} (h : o.kind = 6) : bareV o = ⟨6, o.path, 0, [], 0, false, ⟨#[]⟩, ⟨#[]⟩, ⟨#[]⟩, false, o.pieces⟩ := by simp [bareV, h]
theorem bare0 {o : OpV} (h : o.kind ≠ 1 ∧ o.kind ≠ 2 ∧ o.kind ≠ 3 ∧ o.kind ≠ 4 ∧ o.kind ≠ 5 ∧ o.kind ≠ 6) : bareV o = ⟨o.kind, [], 0, [], 0, false, ⟨#[]⟩, ⟨#[]⟩, ⟨#[]⟩, false, []⟩ := by simp [bareV, h]

/-- An operation with rows of its own is handed back. -/
def GivesO (o : OpV) (w : World) (e : Ending) (w' : World) : Prop :=
  ∃ p t q, e = .returned (o.at_ p t q) ∧ Own w.heap.size w' p o.path ∧ Own w.heap.size w' t o.to ∧ OwnP w.heap.size w' q o.pieces ∧ Below w.heap.size w w'

theorem keepB {w w' : World} {a1 a2 : Addr} {v1 v2 : Value} (h : w.cell? a1 = some v1 ∧ w.cell? a2 = some v2) (hb : Below w.heap.size w w') : w'.cell? a1 = some v1 ∧ w'.cell? a2 = some v2 :=
  ⟨(hb.cell (World.block_lt_of_cell? w _ h.1)).trans h.1, (hb.cell (World.block_lt_of_cell? w _ h.2)).trans h.2⟩

theorem ownForm {base : Nat} {w : World} {v : Value} {l : List Int} (h : Own base w v l) : ∃ a cap, v = .slice a l.length cap := by
  rcases Joins.ownsRow_forms h with ⟨rfl, h0⟩ | ⟨b, cap, rfl⟩
  · exact ⟨none, 0, by rw [h0]⟩
  · exact ⟨_, cap, rfl⟩
def zeroCells : List Value := [.int .u8 0, .slice none 0 0, .int .i64 0, .slice none 0 0, .int .u64 0, .bool false, .string ⟨#[]⟩, .string ⟨#[]⟩, .string ⟨#[]⟩, .bool false, .slice none 0 0]
theorem zero_call {W w5 : World} {n : Nat} (hs : W.heap.size = n) (hb5 : Below (W.alloc (.cells #[.int .u8 0, .slice none 0 0, .int .i64 0, .slice none 0 0, .int .u64 0, .bool false, .string ⟨#[]⟩, .string ⟨#[]⟩, .string ⟨#[]⟩, .bool false, .slice none 0 0] 26)).drew.heap.size (W.alloc (.cells #[.int .u8 0, .slice none 0 0, .int .i64 0, .slice none 0 0, .int .u64 0, .bool false, .string ⟨#[]⟩, .string ⟨#[]⟩, .string ⟨#[]⟩, .bool false, .slice none 0 0] 26)).drew w5) :
    Bk w5 n 26 zeroCells := by
  subst hs
  have h := Bk.new W 26 zeroCells
  exact Bk.below (w := (W.alloc (.cells zeroCells.toArray 26)).drew) h hb5 h.lt
theorem zero_cells {w : World} {g : Nat} (h : Bk w g 26 zeroCells) : w.cell? ⟨g, 0, none⟩ = some (.int .u8 0) ∧ w.cell? ⟨g, 1, none⟩ = some (.slice none 0 0) ∧ w.cell? ⟨g, 2, none⟩ = some (.int .i64 0) ∧ w.cell? ⟨g, 3, none⟩ = some (.slice none 0 0) ∧ w.cell? ⟨g, 4, none⟩ = some (.int .u64 0) ∧ w.cell? ⟨g, 5, none⟩ = some (.bool false) ∧ w.cell? ⟨g, 6, none⟩ = some (.string ⟨#[]⟩) ∧ w.cell? ⟨g, 7, none⟩ = some (.string ⟨#[]⟩) ∧ w.cell? ⟨g, 8, none⟩ = some (.string ⟨#[]⟩) ∧ w.cell? ⟨g, 9, none⟩ = some (.bool false) ∧ w.cell? ⟨g, 10, none⟩ = some (.slice none 0 0) :=
  ⟨h.cell 0, h.cell 1, h.cell 2, h.cell 3, h.cell 4, h.cell 5, h.cell 6, h.cell 7, h.cell 8, h.cell 9, h.cell 10⟩
theorem bare_start {w w1 : World} {o : OpV} {p t q : Value} (h : Held w w1 o p t q) (hs : w1.heap.size = w.heap.size + 1) :
    ∃ W, w1.alloc (.cells zeroCells.toArray 26) = W ∧ Held w W o p t q ∧ Bk W (w.heap.size + 1) 26 zeroCells ∧ W.heap.size = w.heap.size + 2 := by
  refine ⟨_, rfl, h.next (bAl (Below.refl _ _) _), ?_, by simp [hs]⟩
  have := Bk.new w1 26 zeroCells
  rw [hs] at this
  exact this

def bareCells (k : Int) (r : Value) : List Value := [.int .u8 k, r, .int .i64 0, .slice none 0 0, .int .u64 0, .bool false, .string ⟨#[]⟩, .string ⟨#[]⟩, .string ⟨#[]⟩, .bool false, .slice none 0 0]
/-- The operation as it came. -/
structure Came (w : World) (o : OpV) (p t q : Value) : Prop where
  path : Rd w p o.path
  to : Rd w t o.to
  pieces : RdP w q o.pieces
  fits : o.Fits
/-- In the midst of Bare: the operation's block, the answer's two blocks. -/
structure BM (w W : World) (g : Nat) (o : OpV) (p t q : Value) (cs : List Value) : Prop where
  held : Held w W o p t q
  res : Bk W (w.heap.size + 1) 26 zeroCells
  out : Bk W g 26 cs
  far : w.heap.size + 2 ≤ g
theorem Came.held {w W : World} {o : OpV} {p t q : Value} (h : Came w o p t q) (hb : Below w.heap.size w W) (hx : Boxed W w.heap.size o p t q) : Held w W o p t q :=
  ⟨hx, h.path.below hb, h.to.below hb, h.pieces.below hb, h.fits, hb⟩
theorem bkSet {w : World} {g h i : Nat} {T : TypeId} {cs : List Value} {u : Value} (hb : Bk w g T cs) (hne : g ≠ h) : Bk (w.setCell ⟨h, i, none⟩ u) g T cs := hb.grown (Lib.grownBy_setCell w h i u) (fun e => hne (by injection e))
theorem BM.set {w W : World} {g : Nat} {o : OpV} {p t q : Value} {cs : List Value} (h : BM w W g o p t q cs) (hc : Came w o p t q) (i : Nat) (u : Value) : BM w (W.setCell ⟨g, i, none⟩ u) g o p t q (cs.set i u) := by
  have hf := h.far
  exact ⟨hc.held (h.held.bel.setCell (by show w.heap.size ≤ g; omega) _) (bkSet h.held.box (by omega)), bkSet h.res (by omega), h.out.set_ i u, h.far⟩
theorem BM.next {w W W' : World} {g : Nat} {o : OpV} {p t q : Value} {cs : List Value} (h : BM w W g o p t q cs) (hb : Below W.heap.size W W') : BM w W' g o p t q cs :=
  ⟨h.held.next hb, h.res.below hb h.res.lt, h.out.below hb h.out.lt, h.far⟩
theorem BM.c {w W : World} {g : Nat} {o : OpV} {p t q r : Value} (h : BM w W g o p t q (bareCells o.kind r)) : W.cell? ⟨g, 0, none⟩ = some (.int .u8 o.kind) ∧ W.cell? ⟨g, 1, none⟩ = some r ∧ W.cell? ⟨g, 2, none⟩ = some (.int .i64 0) ∧ W.cell? ⟨g, 3, none⟩ = some (.slice none 0 0) ∧ W.cell? ⟨g, 4, none⟩ = some (.int .u64 0) ∧ W.cell? ⟨g, 5, none⟩ = some (.bool false) ∧ W.cell? ⟨g, 6, none⟩ = some (.string ⟨#[]⟩) ∧ W.cell? ⟨g, 7, none⟩ = some (.string ⟨#[]⟩) ∧ W.cell? ⟨g, 8, none⟩ = some (.string ⟨#[]⟩) ∧ W.cell? ⟨g, 9, none⟩ = some (.bool false) ∧ W.cell? ⟨g, 10, none⟩ = some (.slice none 0 0) :=
  ⟨h.out.cell 0, h.out.cell 1, h.out.cell 2, h.out.cell 3, h.out.cell 4, h.out.cell 5, h.out.cell 6, h.out.cell 7, h.out.cell 8, h.out.cell 9, h.out.cell 10⟩
theorem bare_mid1 {w w5 : World} {o : OpV} {p t q r : Value} (h : Held w w5 o p t q) (hz : Bk w5 (w.heap.size + 1) 26 zeroCells) (ho : Own w.heap.size w5 r o.path) (hs : w.heap.size + 2 ≤ w5.heap.size) :
    ∃ W, w5.alloc (.cells #[.int .u8 o.kind, r, .int .i64 0, .slice none 0 0, .int .u64 0, .bool false, .string ⟨#[]⟩, .string ⟨#[]⟩, .string ⟨#[]⟩, .bool false, .slice none 0 0] 26) = W ∧ BM w W w5.heap.size o p t q (bareCells o.kind r) ∧ Own w.heap.size W r o.path :=
  ⟨_, rfl, ⟨h.next (bAl (Below.refl _ _) _), hz.alloc _, Bk.new w5 _ (bareCells o.kind r), hs⟩, ho.below (bAl (Below.refl _ _) _)⟩
theorem ownSet {base : Nat} {w : World} {v : Value} {l : List Int} {g i : Nat} {u : Value} (h : Own base w v l) (hne : v.ownBlock ≠ some g) : Own base (w.setCell ⟨g, i, none⟩ u) v l := ownsRow_setCell_other h hne u
theorem ownSetP {base : Nat} {w : World} {v : Value} {l : List Pc} {g i : Nat} {u : Value} (h : OwnP base w v l) (hne : v.ownBlock ≠ some g) : OwnP base (w.setCell ⟨g, i, none⟩ u) v l := ownsRow_setCell_other h hne u
theorem Own.not_block {base : Nat} {w : World} {v : Value} {l : List Int} (h : Own base w v l) {g : Nat} {T : TypeId} {cs : List Value} (hg : Bk w g T cs) (hT : T ≠ 3) : v.ownBlock ≠ some g := by
  intro e
  obtain ⟨c, fz, hc⟩ := Lib.ownsRow_kind h g e
  unfold Bk at hg
  rw [hg] at hc
  injection hc with hc
  injection hc with _ hc
  exact hT hc
theorem bare_mid2 {w w5 : World} {o : OpV} {p t q r : Value} (hc : Came w o p t q) (h : Held w w5 o p t q) (hz : Bk w5 (w.heap.size + 1) 26 zeroCells) (hg : Bk w5 (w.heap.size + 2) 26 zeroCells) (ho : Own w.heap.size w5 r o.path) :
    ∃ W, (((((((((((w5.setCell ⟨w.heap.size + 2, 0, none⟩ (.int .u8 o.kind)).setCell ⟨w.heap.size + 2, 1, none⟩ r).setCell ⟨w.heap.size + 2, 2, none⟩ (.int .i64 0)).setCell ⟨w.heap.size + 2, 3, none⟩ (.slice none 0 0)).setCell ⟨w.heap.size + 2, 4, none⟩ (.int .u64 0)).setCell
      ⟨w.heap.size + 2, 5, none⟩ (.bool false)).setCell ⟨w.heap.size + 2, 6, none⟩ (.string ⟨#[]⟩)).setCell ⟨w.heap.size + 2, 7, none⟩ (.string ⟨#[]⟩)).setCell ⟨w.heap.size + 2, 8, none⟩ (.string ⟨#[]⟩)).setCell ⟨w.heap.size + 2, 9, none⟩ (.bool false)).setCell ⟨w.heap.size + 2, 10, none⟩ (.slice none 0 0)) = W ∧
      BM w W (w.heap.size + 2) o p t q (bareCells o.kind r) ∧ Own w.heap.size W r o.path := by
  have hne := ho.not_block hg (by decide)
  have h0 : BM w w5 (w.heap.size + 2) o p t q zeroCells := ⟨h, hz, hg, Nat.le_refl _⟩
  refine ⟨_, rfl, ((((((((((h0.set hc 0 _).set hc 1 _).set hc 2 _).set hc 3 _).set hc 4 _).set hc 5 _).set hc 6 _).set hc 7 _).set hc 8 _).set hc 9 _).set hc 10 _, ?_⟩
  repeat refine ownSet ?_ hne
  exact ho

/-- The answer written into its own block. -/
theorem bare_fin {W : World} {g : Nat} (h : Bk W g 26 zeroCells) (c0 c1 c2 c3 c4 c5 c6 c7 c8 c9 c10 : Value) :
    Bk (((((((((((W.setCell ⟨g, 0, none⟩ c0).setCell ⟨g, 1, none⟩ c1).setCell ⟨g, 2, none⟩ c2).setCell ⟨g, 3, none⟩ c3).setCell ⟨g, 4, none⟩ c4).setCell ⟨g, 5, none⟩ c5).setCell ⟨g, 6, none⟩ c6).setCell ⟨g, 7, none⟩ c7).setCell ⟨g, 8, none⟩ c8).setCell ⟨g, 9, none⟩ c9).setCell ⟨g, 10, none⟩ c10) g 26 [c0, c1, c2, c3, c4, c5, c6, c7, c8, c9, c10] :=
  ((((((((((h.set_ 0 c0).set_ 1 c1).set_ 2 c2).set_ 3 c3).set_ 4 c4).set_ 5 c5).set_ 6 c6).set_ 7 c7).set_ 8 c8).set_ 9 c9).set_ 10 c10
theorem bkDrew {w : World} {g : Nat} {T : TypeId} {cs : List Value} (h : Bk w g T cs) : Bk w.drew g T cs := h
theorem bare_res {W : World} {g : Nat} {tmps : Array Value} {c0 c1 c2 c3 c4 c5 c6 c7 c8 c9 c10 : Value} (hp : tmps.getD 2 undef = .pointer (some ⟨g, 0, none⟩)) (h : Bk W g 26 [c0, c1, c2, c3, c4, c5, c6, c7, c8, c9, c10]) :
    (results Try.f35 tmps).run Try.prog W = .ok (.agg #[c0, c1, c2, c3, c4, c5, c6, c7, c8, c9, c10]) W :=
  results_cell_row rfl tmps W g _ _ _ _ hp h Try.underlying26 rfl (by kernel_rfl)

set_option maxHeartbeats 3200000 in
set_option maxRecDepth 100000 in
theorem bare_any (v : Value) (o : OpV) (w : World) (h : RdO w v o) (hl : o.path.length ≤ 100000 ∧ o.to.length ≤ 100000 ∧ o.pieces.length ≤ 100000) :
    Calls Try.prog 35 #[v] w (GivesO (bareV o) w) := by
  obtain ⟨p, t, q, rfl, h1, h2, h3, hF⟩ := h
  have H1 := Lib.hid (Held.new h1 h2 h3 hF)
  have HCM := Lib.hid (Came.mk h1 h2 h3 hF)
  obtain ⟨R, hR⟩ : ∃ R, R = bareV o := ⟨_, rfl⟩
  rw [← hR]
  have HR := Lib.hid hR
  clear h1 h2 h3 hF hR
  unfold OpV.at_
  go_enter Try.func35, Try.ntmps35
  go_wp2_with fail
  obtain ⟨W, eW, hW, hZ, hs⟩ := bare_start H1.out (by simp)
  rw [show zeroCells.toArray = #[.int .u8 0, .slice none 0 0, .int .i64 0, .slice none 0 0, .int .u64 0, .bool false, .string ⟨#[]⟩, .string ⟨#[]⟩, .string ⟨#[]⟩, .bool false, .slice none 0 0] from rfl] at eW
  rw [eW]
  have HW := Lib.hid hW
  have HZ := Lib.hid hZ
  clear eW hW hZ
  obtain ⟨e0, e1, e2, e3, e4, e5, e6, e7, e8, e9, e10⟩ := HW.out.box.c
  have hbd : Below W.heap.size W W.drew := (Below.refl _ _).drew
  go_region_held3 (fun w' => w'.cell? ⟨w.heap.size, 0, none⟩ = some (.int .u8 o.kind) ∧ w'.cell? ⟨w.heap.size, 1, none⟩ = some p)
    (first | (refine ⟨?_, ?_⟩ <;> with_reducible assumption) | go_keep)
    (first | fail | (go_at_call 55; refine (someI_any _ _ _ (HW.out.path.below (by first | assumption | exact bAl hbd _)) hl.1).mono ?_; rintro e w5 ⟨r, rfl, ho, hb5⟩; obtain ⟨ra, rc, rfl⟩ := ownForm ho; have HB5 := Lib.hid (bNext (show Below W.heap.size W _ by first | assumption | exact bAl hbd _ | exact bQt (bAl (Below.refl _ _) _) ⟨1, rfl⟩) hb5); have HO := Lib.hid (ho.mono (base' := w.heap.size) (by simp [hs] <;> omega)); have HX := Lib.hid (HW.out.next HB5.out); have HZ1 := Lib.hid (HZ.out.below HB5.out HZ.out.lt); have hs5 := HB5.out.size; rw [hs] at hs5; obtain ⟨d0, d1, -⟩ := HX.out.box.c; clear ho; try (have hz : Bk w5 (w.heap.size + 2) 26 zeroCells := (by with_reducible exact zero_call hs hb5); obtain ⟨z0, z1, z2, z3, z4, z5, z6, z7, z8, z9, z10⟩ := zero_cells hz; have zf := hz.frozen; have HZ5 := Lib.hid hz; clear hz)))
  all_goals
    first
    | (obtain ⟨W6, eW, hB, hO⟩ := bare_mid1 HX.out HZ1.out HO.out hs5; rw [eW]; clear eW d0 d1; obtain ⟨g3, hg3⟩ : ∃ g, g = w5.heap.size := ⟨_, rfl⟩; rw [← hg3] at hB ⊢)
    | (obtain ⟨W6, eW, hB, hO⟩ := bare_mid2 HCM.out HX.out HZ1.out HZ5.out HO.out; rw [eW]; clear eW d0 d1 z0 z1 z2 z3 z4 z5 z6 z7 z8 z9 z10 zf; obtain ⟨g3, hg3⟩ : ∃ g, g = w.heap.size + 2 := ⟨_, rfl⟩; rw [← hg3] at hB ⊢)
  all_goals
    have HB := Lib.hid hB
    have HO6 := Lib.hid hO
    clear hg3 hB hO e0 e1 e2 e3 e4 e5 e6 e7 e8 e9 e10
    have hfar := HB.out.far
    obtain ⟨e0, e1, e2, e3, e4, e5, e6, e7, e8, e9, e10⟩ := HB.out.held.box.c
    obtain ⟨c0, c1, c2, c3, c4, c5, c6, c7, c8, c9, c10⟩ := HB.out.c
    obtain ⟨r0, r1, r2, r3, r4, r5, r6, r7, r8, r9, r10⟩ := zero_cells HB.out.res
    have fz := HB.out.out.frozen
    have fr := HB.out.res.frozen
    rcases kinds o with hk | hk | hk | hk | hk | hk | hk
    · have HK := Lib.hid (HR.out.trans (bare1 hk))
      go_wp2_with fail
      go_region
      go_wp2_with fail
      refine bodyPost_ret (bare_res rfl (bkDrew (bare_fin (bkSet (bkSet (bkSet (bkSet HB.out.res (by omega)) (by omega)) (by omega)) (by omega)) _ _ _ _ _ _ _ _ _ _ _))) rfl ?_
      rw [HK.out]
      have hn2 := HO6.out.not_block HB.out.res (by decide)
      have hn3 := HO6.out.not_block HB.out.out (by decide)
      refine ⟨.slice ra o.path.length rc, .slice none 0 0, .slice none 0 0, rfl, ?_, Own.nil _ _, OwnP.nil _ _, ?_⟩
      · refine Own.qt ?_ ⟨1, rfl⟩
        repeat refine ownSet ?_ (by first | exact hn2 | exact hn3)
        exact HO6.out
      · refine bQt ?_ ⟨1, rfl⟩
        repeat refine Below.setCell ?_ (by simp <;> omega) _
        exact HB.out.held.bel
    · have HK := Lib.hid (HR.out.trans (bare2 hk))
      go_wp2_with fail
      refine bodyPost_ret (bare_res rfl (bare_fin HB.out.res _ _ _ _ _ _ _ _ _ _ _)) rfl ?_
      rw [HK.out]
      have hn2 := HO6.out.not_block HB.out.res (by decide)
      refine ⟨.slice ra o.path.length rc, .slice none 0 0, .slice none 0 0, rfl, ?_, Own.nil _ _, OwnP.nil _ _, ?_⟩
      · repeat refine ownSet ?_ hn2
        exact HO6.out
      · repeat refine Below.setCell ?_ (by simp) _
        exact HB.out.held.bel
    · have HK := Lib.hid (HR.out.trans (bare3 hk))
      go_wp2_with fail
      have hbd6 : Below W6.heap.size W6 W6.drew := (Below.refl _ _).drew
      go_region_with (go_at_call 55; refine (someI_any _ _ _ (HB.out.held.to.below hbd6) hl.2.1).mono ?_; rintro e w7 ⟨r7, rfl, ho7, hb7⟩; obtain ⟨ra7, rc7, rfl⟩ := ownForm ho7; have HB7 := Lib.hid (HB.out.next (hbd6.trans hb7)); have HO7 := Lib.hid (HO6.out.below (hbd6.trans hb7)); have HP7 := Lib.hid (ho7.mono (base' := w.heap.size) HB.out.held.bel.size); clear ho7 hb7 e0 e1 e2 e3 e4 e5 e6 e7 e8 e9 e10 c0 c1 c2 c3 c4 c5 c6 c7 c8 c9 c10 r0 r1 r2 r3 r4 r5 r6 r7 r8 r9 r10 fz fr; obtain ⟨e0, e1, e2, e3, e4, e5, e6, e7, e8, e9, e10⟩ := HB7.out.held.box.c; obtain ⟨c0, c1, c2, c3, c4, c5, c6, c7, c8, c9, c10⟩ := HB7.out.c; obtain ⟨r0, r1, r2, r3, r4, r5, r6, r7, r8, r9, r10⟩ := zero_cells HB7.out.res; have fz := HB7.out.out.frozen; have fr := HB7.out.res.frozen)
      all_goals
        go_wp2_with fail
        refine bodyPost_ret (bare_res rfl (bare_fin (bkSet (bkSet HB7.out.res (by omega)) (by omega)) _ _ _ _ _ _ _ _ _ _ _)) rfl ?_
        rw [HK.out]
        have hn2 := HO7.out.not_block HB7.out.res (by decide)
        have hn3 := HO7.out.not_block HB7.out.out (by decide)
        have hp2 := HP7.out.not_block HB7.out.res (by decide)
        have hp3 := HP7.out.not_block HB7.out.out (by decide)
        refine ⟨.slice ra o.path.length rc, .slice ra7 o.to.length rc7, .slice none 0 0, rfl, ?_, ?_, OwnP.nil _ _, ?_⟩
        · repeat refine ownSet ?_ (by first | exact hn2 | exact hn3)
          exact HO7.out
        · repeat refine ownSet ?_ (by first | exact hp2 | exact hp3)
          exact HP7.out
        · repeat refine Below.setCell ?_ (by simp <;> omega) _
          exact HB7.out.held.bel
    · have HK := Lib.hid (HR.out.trans (bare4 hk))
      go_wp2_with fail
      go_region
      cases hg : o.gone
      · have HG := Lib.hid hg
        rw [hg] at e9
        clear hg
        go_wp2_with fail
        refine bodyPost_ret (bare_res rfl (bkDrew (bare_fin (bkSet (bkSet (bkSet HB.out.res (by omega)) (by omega)) (by omega)) _ _ _ _ _ _ _ _ _ _ _))) rfl ?_
        rw [HK.out]
        have hn2 := HO6.out.not_block HB.out.res (by decide)
        have hn3 := HO6.out.not_block HB.out.out (by decide)
        refine ⟨.slice ra o.path.length rc, .slice none 0 0, .slice none 0 0, ?_, ?_, Own.nil _ _, OwnP.nil _ _, ?_⟩
        · unfold OpV.at_; simp [HG.out]
        · refine Own.qt ?_ ⟨1, rfl⟩
          repeat refine ownSet ?_ (by first | exact hn2 | exact hn3)
          exact HO6.out
        · refine bQt ?_ ⟨1, rfl⟩
          repeat refine Below.setCell ?_ (by simp <;> omega) _
          exact HB.out.held.bel
      · have HG := Lib.hid hg
        rw [hg] at e9
        clear hg
        go_wp2_with fail
        refine bodyPost_ret (bare_res rfl (bkDrew (bare_fin (bkSet (bkSet HB.out.res (by omega)) (by omega)) _ _ _ _ _ _ _ _ _ _ _))) rfl ?_
        rw [HK.out]
        have hn2 := HO6.out.not_block HB.out.res (by decide)
        have hn3 := HO6.out.not_block HB.out.out (by decide)
        refine ⟨.slice ra o.path.length rc, .slice none 0 0, .slice none 0 0, ?_, ?_, Own.nil _ _, OwnP.nil _ _, ?_⟩
        · unfold OpV.at_; simp [HG.out]
        · refine Own.qt ?_ ⟨1, rfl⟩
          repeat refine ownSet ?_ (by first | exact hn2 | exact hn3)
          exact HO6.out
        · refine bQt ?_ ⟨1, rfl⟩
          repeat refine Below.setCell ?_ (by simp <;> omega) _
          exact HB.out.held.bel
    · have HK := Lib.hid (HR.out.trans (bare5 hk))
      go_wp2_with fail
      refine bodyPost_ret (bare_res rfl (bare_fin (bkSet HB.out.res (by omega)) _ _ _ _ _ _ _ _ _ _ _)) rfl ?_
      rw [HK.out]
      have hn2 := HO6.out.not_block HB.out.res (by decide)
      have hn3 := HO6.out.not_block HB.out.out (by decide)
      refine ⟨.slice ra o.path.length rc, .slice none 0 0, .slice none 0 0, rfl, ?_, Own.nil _ _, OwnP.nil _ _, ?_⟩
      · repeat refine ownSet ?_ (by first | exact hn2 | exact hn3)
        exact HO6.out
      · repeat refine Below.setCell ?_ (by simp <;> omega) _
        exact HB.out.held.bel
    · have HK := Lib.hid (HR.out.trans (bare6 hk))
      go_wp2_with fail
      go_at_call 56
      refine (someP_any _ _ _ HB.out.held.pieces hl.2.2).mono ?_
      rintro e w7 ⟨r7, rfl, ho7, hb7⟩
      obtain ⟨ra7, rc7, rfl⟩ := ho7.form
      have HB7 := Lib.hid (HB.out.next hb7)
      have HO7 := Lib.hid (HO6.out.below hb7)
      have HP7 := Lib.hid (ho7.mono (base' := w.heap.size) HB.out.held.bel.size)
      clear ho7 hb7 e0 e1 e2 e3 e4 e5 e6 e7 e8 e9 e10 c0 c1 c2 c3 c4 c5 c6 c7 c8 c9 c10 r0 r1 r2 r3 r4 r5 r6 r7 r8 r9 r10 fz fr
      obtain ⟨e0, e1, e2, e3, e4, e5, e6, e7, e8, e9, e10⟩ := HB7.out.held.box.c
      obtain ⟨c0, c1, c2, c3, c4, c5, c6, c7, c8, c9, c10⟩ := HB7.out.c
      obtain ⟨r0, r1, r2, r3, r4, r5, r6, r7, r8, r9, r10⟩ := zero_cells HB7.out.res
      have fz := HB7.out.out.frozen
      have fr := HB7.out.res.frozen
      go_wp2_with fail
      refine bodyPost_ret (bare_res rfl (bare_fin (bkSet HB7.out.res (by omega)) _ _ _ _ _ _ _ _ _ _ _)) rfl ?_
      rw [HK.out]
      have hn2 := HO7.out.not_block HB7.out.res (by decide)
      have hn3 := HO7.out.not_block HB7.out.out (by decide)
      have hp2 := HP7.out.not_block HB7.out.res (by decide)
      have hp3 := HP7.out.not_block HB7.out.out (by decide)
      refine ⟨.slice ra o.path.length rc, .slice none 0 0, .slice ra7 o.pieces.length rc7, rfl, ?_, Own.nil _ _, ?_, ?_⟩
      · repeat refine ownSet ?_ (by first | exact hn2 | exact hn3)
        exact HO7.out
      · repeat refine ownSetP ?_ (by first | exact hp2 | exact hp3)
        exact HP7.out
      · repeat refine Below.setCell ?_ (by simp <;> omega) _
        exact HB7.out.held.bel
    · have HK := Lib.hid (HR.out.trans (bare0 hk))
      obtain ⟨n1, n2, n3, n4, n5, n6⟩ := hk
      go_wp2_with fail
      refine bodyPost_ret (bare_res rfl (bare_fin (bkSet HB.out.res (by omega)) _ _ _ _ _ _ _ _ _ _ _)) rfl ?_
      rw [HK.out]
      refine ⟨.slice none 0 0, .slice none 0 0, .slice none 0 0, rfl, Own.nil _ _, Own.nil _ _, OwnP.nil _ _, ?_⟩
      repeat refine Below.setCell ?_ (by simp <;> omega) _
      exact HB.out.held.bel
end Go.Proofs.Ytciedipihfkbbaa
