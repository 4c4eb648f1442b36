/- Lists simplified: the program's walk. -/
import Derived.Test.YtciedipihfkbbaaEv
import Derived.StillTailTactics
import Derived.Deep.WholeRow
import Derived.Laws.Tables
namespace Go.Proofs.Ytciedipihfkbbaa
open Go.RowKit

/-- A list of operations of one's own is handed back. -/
def GivesOs (l : List OpV) (w : World) (e : Ending) (w' : World) : Prop := ∃ r, e = .returned r ∧ OwnOs w.heap.size w' r l ∧ Below w.heap.size w w'

/-- The cells of the operation at a place. -/
def OpCellsAt (w : World) (b o : Nat) (x : OpV) (p t q : Value) : Prop :=
  w.cell? ⟨b, o, none⟩ = some (.int .u8 x.kind) ∧ w.cell? ⟨b, o + 1, none⟩ = some p ∧ w.cell? ⟨b, o + 2, none⟩ = some (.int .i64 x.gap) ∧ w.cell? ⟨b, o + 3, none⟩ = some t ∧ w.cell? ⟨b, o + 4, none⟩ = some (.int .u64 x.id) ∧ w.cell? ⟨b, o + 5, none⟩ = some (.bool x.leaf) ∧
  w.cell? ⟨b, o + 6, none⟩ = some (.string x.label) ∧ w.cell? ⟨b, o + 7, none⟩ = some (.string x.key) ∧ w.cell? ⟨b, o + 8, none⟩ = some (.string x.val) ∧ w.cell? ⟨b, o + 9, none⟩ = some (.bool x.gone) ∧ w.cell? ⟨b, o + 10, none⟩ = some q
theorem RdOs.at_ {w : World} {v : Value} {l : List OpV} (h : RdOs w v l) : ∃ a cap, v = .slice a l.length cap ∧ l.length ≤ cap ∧ cap ≤ 9223372036854775807 ∧ (a = none → cap = 0) ∧
    ∀ k (hk : k < l.length), ∃ b o p t q, a = some ⟨b, o, none⟩ ∧ Came w l[k] p t q ∧ OpCellsAt w b (o + k * 11) l[k] p t q := by
  obtain ⟨rs, rfl, ⟨h0, a, cap, rfl, h1, h2, h3, h4⟩, h5⟩ := h
  have hm : (rs.map fun r => r.o).length = rs.length := List.length_map ..
  refine ⟨a, cap, by rw [hm], by rw [hm]; exact h1, h2, h3, fun k hk0 => ?_⟩
  have hk : k < rs.length := by rw [← hm]; exact hk0
  have hc := fun i (hi : i < 11) => OsCells_at rs k hk i hi
  obtain ⟨b, o, rfl, -⟩ := h4 _ _ (hc 0 (by omega))
  have hx : ∀ i (hi : i < 11) u, rs[k].cells[i]? = some u → w.cell? ⟨b, o + k * 11 + i, none⟩ = some u := fun i hi u hu => by
    obtain ⟨b', o', e, hh⟩ := h4 (k * 11 + i) u ((hc i hi).trans hu)
    injection e with e
    injection e with e1 e2
    subst e1 e2
    rw [Nat.add_assoc]; exact hh
  have hcame := h5 rs[k] (List.getElem_mem hk)
  rw [List.getElem_map]
  exact ⟨b, o, rs[k].p, rs[k].t, rs[k].q, rfl, hcame, hx 0 (by omega) _ rfl, hx 1 (by omega) _ rfl, hx 2 (by omega) _ rfl, hx 3 (by omega) _ rfl, hx 4 (by omega) _ rfl, hx 5 (by omega) _ rfl, hx 6 (by omega) _ rfl, hx 7 (by omega) _ rfl, hx 8 (by omega) _ rfl, hx 9 (by omega) _ rfl, hx 10 (by omega) _ rfl⟩
theorem OwnOs.ptr {base : Nat} {w : World} {v : Value} {l : List OpV} (h : OwnOs base w v l) (hl : 0 < l.length) : ∃ g cap, v = .slice (some ⟨g, 0, none⟩) l.length cap := by
  obtain ⟨rs, rfl, h1, h2⟩ := h
  rw [List.length_map] at hl ⊢
  exact Joins.ownsRow_form h1 hl
theorem OpCellsAt.below {w w' : World} {b o : Nat} {x : OpV} {p t q : Value} (h : OpCellsAt w b o x p t q) (hb : Below w.heap.size w w') : OpCellsAt w' b o x p t q := by
  obtain ⟨c0, c1, c2, c3, c4, c5, c6, c7, c8, c9, c10⟩ := h
  have hk : ∀ i u, w.cell? ⟨b, i, none⟩ = some u → w'.cell? ⟨b, i, none⟩ = some u := fun i u hu => (hb.cell (p := ⟨b, i, none⟩) (lt_of_cell hu)).trans hu
  exact ⟨hk _ _ c0, hk _ _ c1, hk _ _ c2, hk _ _ c3, hk _ _ c4, hk _ _ c5, hk _ _ c6, hk _ _ c7, hk _ _ c8, hk _ _ c9, hk _ _ c10⟩
theorem list_take (P : OpV → OpV → Option (List OpV)) (l : List OpV) (k : Nat) (hk : k < l.length) : listS P (l.take (k + 1)) = pushS P (listS P (l.take k)) l[k] := by
  unfold listS; rw [List.take_succ_eq_append_getElem hk, List.foldl_append]; rfl
/-- The block made last is filled whole. -/
theorem wpList_store_new {P : Program} {ops : Array Oper} {rest : List Oper} {o : Oper} {a : Act} {w : World} {Q : Exit → Act → World → Prop} (hgd : o.guard = none) (ty : TypeId) (x y : Operand) (ho : o.op = .store ty x y)
    (c c' : Array Value) (t : TypeId) (hx : a.eval x = .pointer (some ⟨w.heap.size, 0, none⟩)) (hy : a.eval y = .agg c') (hi : (P.info? ty).map (·.size) = some c'.size) (hs : c.size = c'.size) (h1 : c'.all (·.oneCell') = true)
    (h : wpList P ops Q rest (a.put o.dst undef) (w.alloc (.cells c' t))) : wpList P ops Q (o :: rest) a (w.alloc (.cells c t)) := by
  refine wpList_store_row hgd ty x y ho w.heap.size c' hx hy t c (heap_alloc_last w _) hi hs h1 ?_
  rw [World.setRow_alloc_new]
  exact h
theorem op_one {w : World} {o : OpV} {p t q : Value} (h : Came w o p t q) : (#[.int .u8 o.kind, p, .int .i64 o.gap, t, .int .u64 o.id, .bool o.leaf, .string o.label, .string o.key, .string o.val, .bool o.gone, q] : Array Value).all (·.oneCell') = true := by
  obtain ⟨⟨a1, c1, rfl, -⟩, ⟨a2, c2, rfl, -⟩, ⟨a3, c3, rfl, -⟩, -⟩ := h
  simp [Value.oneCell']
theorem below_appO {B : Nat} {a w w' : World} {v : Value} {base : Nat} {l : List OpV} (h : Below B a w) (hown : OwnOs base w v l) (hg : w.grownBy w' v.ownBlock) (hB : B ≤ w.heap.size) (hbase : B ≤ base) : Below B a w' := by
  obtain ⟨rs, -, h1, -⟩ := hown
  exact h.grown hg hB fun k hk => by have := (World.ownsRow.lt h1) k hk; omega
/-- The two operations at a row's end. -/
theorem OwnOs.top {base : Nat} {w : World} {v : Value} {a b : OpV} {s : List OpV} (h : OwnOs base w v (b :: a :: s).reverse) :
    ∃ g cap pa ta qa pb tb qb, v = .slice (some ⟨g, 0, none⟩) (s.length + 2) cap ∧ s.length + 2 ≤ cap ∧ cap ≤ 9223372036854775807 ∧ Came w a pa ta qa ∧ Came w b pb tb qb ∧
      OpCellsAt w g (s.length * 11) a pa ta qa ∧ OpCellsAt w g ((s.length + 1) * 11) b pb tb qb ∧ OwnOs base w (.slice (some ⟨g, 0, none⟩) s.length cap) s.reverse := by
  have hlen : (b :: a :: s).reverse.length = s.length + 2 := by simp
  obtain ⟨g, cap, rfl⟩ := h.ptr (by rw [hlen]; omega)
  obtain ⟨a', cap', e, h1, h2, h3, h4⟩ := h.rd.at_
  obtain ⟨rfl, -, rfl⟩ := Value.slice.inj e
  obtain ⟨b1, o1, pa, ta, qa, e1, c1, d1⟩ := h4 s.length (by rw [hlen]; omega)
  obtain ⟨b2, o2, pb, tb, qb, e2, c2, d2⟩ := h4 (s.length + 1) (by rw [hlen]; omega)
  injection e1 with e1
  injection e1 with e1 e3
  subst e1 e3
  injection e2 with e2
  injection e2 with e2 e3
  subst e2 e3
  have ha : (b :: a :: s).reverse[s.length]'(by rw [hlen]; omega) = a := by simp [List.getElem_append_right]
  have hb : (b :: a :: s).reverse[s.length + 1]'(by rw [hlen]; omega) = b := by simp [List.getElem_append_right]
  rw [ha] at c1 d1
  rw [hb] at c2 d2
  rw [Nat.zero_add] at d1 d2
  refine ⟨g, cap, pa, ta, qa, pb, tb, qb, by rw [hlen], by rw [← hlen]; exact h1, h2, c1, c2, d1, d2, ?_⟩
  have := OwnOs.take (l := s.reverse) (m := [a, b]) (a := some ⟨g, 0, none⟩) (n := (b :: a :: s).reverse.length) (cap := cap) (base := base) (w := w) (by simpa using h) (by simp)
  simpa using this
def rowLen : Value → Nat | .slice _ n _ => n | _ => 0

set_option maxHeartbeats 3200000 in
set_option maxRecDepth 100000 in
theorem list_any (C : List Pc → List Pc → Option (List Pc)) (K : Prop) (hC : K → ∀ l m, CompAt 36 C l m) (v : Value) (l : List OpV) (w : World) (h : RdOs w v l) (hl : ∀ o ∈ l, Lim o ∧ (o.kind = 6 → K)) (hlen : l.length ≤ 100000) :
    Calls Try.prog 18 #[v] w (GivesOs (listV (pairV C) l) w) := by
  have Hv := Lib.hid h
  have HL := Lib.hid hl
  have HC := Lib.hid hC
  obtain ⟨a, cap, rfl, hcap, hb, hn, hc⟩ := h.at_
  have HAt := Lib.hid hc
  clear h hl hC hc hn
  go_enter Try.func18, Try.ntmps18
  go_wp2_with fail
  go_loopw [3, 11] (fun row cnt w' => ∃ (k : Nat) (s : List OpV), k ≤ l.length ∧ cnt = .int .i64 k ∧ OwnOs w.heap.size w' row s.reverse ∧ Hid (listS (pairV C) (l.take k) = s) ∧ Hid (∀ o ∈ s, Lim o ∧ (o.kind = 6 → K)) ∧ s.length ≤ k ∧ Below w.heap.size w w') (fun _ cnt _ => l.length - (intOf cnt).toNat)
  case atStart => exact ⟨0, [], Nat.zero_le _, rfl, OwnOs.nil _ _, Lib.hid rfl, Lib.hid (by simp), by simp, Below.refl _ _⟩
  case round =>
    obtain ⟨k, s, hk, rfl, hown, HS, HF, hsk, hbel⟩ := hrel
    have HO := Lib.hid hown
    have HB := Lib.hid hbel
    clear hown hbel
    by_cases h1 : k < l.length
    · obtain ⟨b, o, p, t, q, rfl, hcame, hcells⟩ := HAt.out k h1
      have hcame := hcame.below (HB.out.mono (Nat.le_refl _))
      have HP := Lib.hid (HL.out _ (List.getElem_mem h1))
      have HT := Lib.hid (list_take (pairV C) l k h1)
      obtain ⟨x, hx⟩ : ∃ x, x = l[k] := ⟨_, rfl⟩
      rw [← hx] at hcame hcells HP HT
      clear hx
      obtain ⟨c0, c1, c2, c3, c4, c5, c6, c7, c8, c9, c10⟩ := hcells.below HB.out
      have HH := Lib.hid (Held.new hcame.path hcame.to hcame.pieces hcame.fits)
      have HCM := Lib.hid hcame
      have H1C := Lib.hid (op_one hcame)
      clear hcells hcame
      go_wp2_with (refine wpList_store_new rfl 26 (.tmp 5) (.tmp 14) rfl _ _ 26 rfl rfl (by kernel_rfl) rfl H1C.out ?_)
      go_at_call 9
      refine (idle_any _ _ _ HH.out.op).mono ?_
      rintro e w1 ⟨rfl, hb1⟩
      have H1 := Lib.hid (HH.out.next hb1)
      clear hb1 c0 c1 c2 c3 c4 c5 c6 c7 c8 c9 c10
      obtain ⟨e0, e1, e2, e3, e4, e5, e6, e7, e8, e9, e10⟩ := H1.out.box.c
      cases ci : idleB x
      · have HI := Lib.hid (show pushS (pairV C) s x = redS (pairV C) (bareV x :: s).length (bareV x :: s) by unfold pushS; rw [ci]; rfl)
        clear ci
        go_wp2_with fail
        go_at_call 35
        refine (bare_any _ x _ H1.out.op HP.out.1).mono ?_
        rintro e w2 ⟨p8, t8, q8, he8, ho8, ht8, hp8, hb8⟩
        unfold OpV.at_ at he8
        subst he8
        have HB2 := Lib.hid (bAl (bNext H1.out.bel hb8) (.cells #[.int .u8 (bareV x).kind, p8, .int .i64 (bareV x).gap, t8, .int .u64 (bareV x).id, .bool (bareV x).leaf, .string (bareV x).label, .string (bareV x).key, .string (bareV x).val, .bool (bareV x).gone, q8] 26))
        have hsz : w.heap.size ≤ w1.heap.size := Nat.le_trans HB.out.size H1.out.bel.size
        have HN := Lib.hid (OwnOs.single (Nat.le_trans hsz hb8.size) (ho8.mono hsz) (ht8.mono hsz) (hp8.mono hsz) (bare_fit (fit_rd HCM.out.pieces)) (bare_fits HCM.out.fits))
        have hsz2 : w.heap.size ≤ w2.heap.size := Nat.le_trans hsz hb8.size
        clear ho8 ht8 hp8 hb8 e0 e1 e2 e3 e4 e5 e6 e7 e8 e9 e10
        have HO2 := Lib.hid (HO.out.below HB2.out)
        go_wp2_with (at_builtin; refine wpList_appO rfl (.tmp 17) (.tmp 20) rfl w.heap.size _ _ rfl HO2.out w.heap.size _ [bareV x] rfl HN.out (Nat.le_refl _) (by simp; omega) (by simp; omega) ?_; intro v3 w3 hown3 hg3 hat3)
        have HO3 := Lib.hid (show OwnOs w.heap.size w3 v3 (bareV x :: s).reverse by simpa using hown3)
        have HB3 := Lib.hid (below_appO (bNext HB.out HB2.out) HO2.out hg3 (by simp; omega) (Nat.le_refl _))
        have HF3 := Lib.hid (show ∀ o ∈ bareV x :: s, Lim o ∧ (o.kind = 6 → K) by
          intro o ho
          rcases List.mem_cons.1 ho with rfl | ho
          · exact ⟨lim_bare HP.out.1, by rw [bare_kind]; exact HP.out.2⟩
          · exact HF.out o ho)
        clear hown3 hg3 hat3
        have hs1 : (bareV x :: s).length ≤ k + 1 := by simp; omega
        go_loopw [3] (fun row w' => ∃ s', OwnOs w.heap.size w' row s'.reverse ∧ Hid (redS (pairV C) s'.length s' = pushS (pairV C) s x) ∧ Hid (∀ o ∈ s', Lim o ∧ (o.kind = 6 → K)) ∧ s'.length ≤ k + 1 ∧ Below w.heap.size w w') (fun row _ => rowLen row)
        case atStart => exact ⟨bareV x :: s, HO3.out, Lib.hid HI.out.symm, HF3, hs1, HB3.out⟩
        case round =>
          obtain ⟨s', hown, HT', HF', hlen', hbel⟩ := hrel
          have HO4 := Lib.hid hown
          have HB4 := Lib.hid hbel
          clear hown hbel
          by_cases h2 : 2 ≤ s'.length
          · match s', h2, hlen', HT', HF', HO4 with
            | b' :: a' :: s'', _, hlen', HT', HF', HO4 =>
            obtain ⟨g, cap', pa, ta, qa, pb, tb, qb, rfl, hcap1, hcap2, cama, camb, cella, cellb, hown⟩ := HO4.out.top
            have HCA := Lib.hid cama
            have HCB := Lib.hid camb
            have HO5 := Lib.hid hown
            have HCE := Lib.hid (And.intro cella cellb)
            obtain ⟨c0, c1, c2, c3, c4, c5, c6, c7, c8, c9, c10⟩ := cella
            obtain ⟨d0, d1, d2, d3, d4, d5, d6, d7, d8, d9, d10⟩ := cellb
            clear cama camb hown
            have HPA := Lib.hid (fun W (hW : Qt wr W) => pair_any C (a'.at_ pa ta qa) (b'.at_ pb tb qb) a' b' W ⟨_, _, _, rfl, HCA.out.path.qt hW, HCA.out.to.qt hW, HCA.out.pieces.qt hW, HCA.out.fits⟩ ⟨_, _, _, rfl, HCB.out.path.qt hW, HCB.out.to.qt hW, HCB.out.pieces.qt hW, HCB.out.fits⟩
              (HF'.out a' (by simp)).1 (HF'.out b' (by simp)).1 (fun h6 _ => HC.out ((HF'.out a' (by simp)).2 h6) _ _))
            unfold OpV.at_ at HPA
            have HFA := Lib.hid (And.intro (HF'.out a' (by simp)) (HF'.out b' (by simp)))
            cases hpv : pairV C a' b' with
            | none =>
              rw [hpv] at HPA
              have HPV := Lib.hid hpv
              clear hpv
              go_wp2_with fail
              have hx1 : (0 : Int) ≤ (s''.length : Int) := by omega
              have hx2 : (s''.length : Int) < (s''.length : Int) + 2 := by omega
              have hx3 : (s''.length : Int) + 1 < (s''.length : Int) + 2 := by omega
              have hx4 : (0 : Int) ≤ (s''.length : Int) + 1 := by omega
              have hx5 : ((s''.length : Int) + 1).toNat = s''.length + 1 := by omega
              have hx6 : IntKind.i64.wrap ((s''.length : Int) + 1) = (s''.length : Int) + 1 := IntWalk.i64_in _ (by omega)
              go_region_held3 (fun w' => w'.cell? ⟨g, s''.length * 11, none⟩ = some (.int .u8 a'.kind) ∧ w'.cell? ⟨g, s''.length * 11 + 1, none⟩ = some pa ∧ w'.cell? ⟨g, s''.length * 11 + 2, none⟩ = some (.int .i64 a'.gap) ∧ w'.cell? ⟨g, s''.length * 11 + 3, none⟩ = some ta ∧ w'.cell? ⟨g, s''.length * 11 + 4, none⟩ = some (.int .u64 a'.id) ∧ w'.cell? ⟨g, s''.length * 11 + 5, none⟩ = some (.bool a'.leaf) ∧ w'.cell? ⟨g, s''.length * 11 + 6, none⟩ = some (.string a'.label) ∧ w'.cell? ⟨g, s''.length * 11 + 7, none⟩ = some (.string a'.key) ∧ w'.cell? ⟨g, s''.length * 11 + 8, none⟩ = some (.string a'.val) ∧ w'.cell? ⟨g, s''.length * 11 + 9, none⟩ = some (.bool a'.gone) ∧ w'.cell? ⟨g, s''.length * 11 + 10, none⟩ = some qa ∧ w'.cell? ⟨g, (s''.length + 1) * 11, none⟩ = some (.int .u8 b'.kind) ∧ w'.cell? ⟨g, (s''.length + 1) * 11 + 1, none⟩ = some pb ∧ w'.cell? ⟨g, (s''.length + 1) * 11 + 2, none⟩ = some (.int .i64 b'.gap) ∧ w'.cell? ⟨g, (s''.length + 1) * 11 + 3, none⟩ = some tb ∧ w'.cell? ⟨g, (s''.length + 1) * 11 + 4, none⟩ = some (.int .u64 b'.id) ∧ w'.cell? ⟨g, (s''.length + 1) * 11 + 5, none⟩ = some (.bool b'.leaf) ∧ w'.cell? ⟨g, (s''.length + 1) * 11 + 6, none⟩ = some (.string b'.label) ∧ w'.cell? ⟨g, (s''.length + 1) * 11 + 7, none⟩ = some (.string b'.key) ∧ w'.cell? ⟨g, (s''.length + 1) * 11 + 8, none⟩ = some (.string b'.val) ∧ w'.cell? ⟨g, (s''.length + 1) * 11 + 9, none⟩ = some (.bool b'.gone) ∧ w'.cell? ⟨g, (s''.length + 1) * 11 + 10, none⟩ = some qb)
                (first | (refine ⟨?_, ?_, ?_, ?_, ?_, ?_, ?_, ?_, ?_, ?_, ?_, ?_, ?_, ?_, ?_, ?_, ?_, ?_, ?_, ?_, ?_, ?_⟩ <;> with_reducible assumption) | go_keep)
                ((go_at_call 13; refine (HPA.out _ ⟨1, rfl⟩).mono ?_; rintro e w6 ⟨r6, rfl, ho6, hb6⟩; have H6 := Lib.hid ((Qt.below ⟨1, rfl⟩ wr.heap.size : Below wr.heap.size wr wr.drew).trans hb6); obtain ⟨⟨m0, m1, m2, m3, m4, m5, m6, m7, m8, m9, m10⟩, n0, n1, n2, n3, n4, n5, n6, n7, n8, n9, n10⟩ := And.intro (HCE.out.1.below H6.out) (HCE.out.2.below H6.out); clear ho6 hb6))
              clear hx1 hx2 hx3 hx4 hx5 hx6
              clear c0 c1 c2 c3 c4 c5 c6 c7 c8 c9 c10 d0 d1 d2 d3 d4 d5 d6 d7 d8 d9 d10 m0 m1 m2 m3 m4 m5 m6 m7 m8 m9 m10 n0 n1 n2 n3 n4 n5 n6 n7 n8 n9 n10
              go_wp2_with fail
              go_roundw
              case rel => exact ⟨k + 1, b' :: a' :: s'', by omega, by go_num, HO4.out.below H6.out, Lib.hid (by rw [HT.out, HS.out, ← HT'.out, redS_two_none HPV.out]), HF', hlen', bNext HB4.out H6.out⟩
              case measure => simp [intOf]; omega
            | some x' =>
              rw [hpv] at HPA
              have HPV := Lib.hid hpv
              clear hpv
              go_wp2_with fail
              have hx1 : (0 : Int) ≤ (s''.length : Int) := by omega
              have hx2 : (s''.length : Int) < (s''.length : Int) + 2 := by omega
              have hx3 : (s''.length : Int) + 1 < (s''.length : Int) + 2 := by omega
              have hx4 : (0 : Int) ≤ (s''.length : Int) + 1 := by omega
              have hx5 : ((s''.length : Int) + 1).toNat = s''.length + 1 := by omega
              have hx6 : IntKind.i64.wrap ((s''.length : Int) + 1) = (s''.length : Int) + 1 := IntWalk.i64_in _ (by omega)
              go_region_held3 (fun w' => w'.cell? ⟨g, s''.length * 11, none⟩ = some (.int .u8 a'.kind) ∧ w'.cell? ⟨g, s''.length * 11 + 1, none⟩ = some pa ∧ w'.cell? ⟨g, s''.length * 11 + 2, none⟩ = some (.int .i64 a'.gap) ∧ w'.cell? ⟨g, s''.length * 11 + 3, none⟩ = some ta ∧ w'.cell? ⟨g, s''.length * 11 + 4, none⟩ = some (.int .u64 a'.id) ∧ w'.cell? ⟨g, s''.length * 11 + 5, none⟩ = some (.bool a'.leaf) ∧ w'.cell? ⟨g, s''.length * 11 + 6, none⟩ = some (.string a'.label) ∧ w'.cell? ⟨g, s''.length * 11 + 7, none⟩ = some (.string a'.key) ∧ w'.cell? ⟨g, s''.length * 11 + 8, none⟩ = some (.string a'.val) ∧ w'.cell? ⟨g, s''.length * 11 + 9, none⟩ = some (.bool a'.gone) ∧ w'.cell? ⟨g, s''.length * 11 + 10, none⟩ = some qa ∧ w'.cell? ⟨g, (s''.length + 1) * 11, none⟩ = some (.int .u8 b'.kind) ∧ w'.cell? ⟨g, (s''.length + 1) * 11 + 1, none⟩ = some pb ∧ w'.cell? ⟨g, (s''.length + 1) * 11 + 2, none⟩ = some (.int .i64 b'.gap) ∧ w'.cell? ⟨g, (s''.length + 1) * 11 + 3, none⟩ = some tb ∧ w'.cell? ⟨g, (s''.length + 1) * 11 + 4, none⟩ = some (.int .u64 b'.id) ∧ w'.cell? ⟨g, (s''.length + 1) * 11 + 5, none⟩ = some (.bool b'.leaf) ∧ w'.cell? ⟨g, (s''.length + 1) * 11 + 6, none⟩ = some (.string b'.label) ∧ w'.cell? ⟨g, (s''.length + 1) * 11 + 7, none⟩ = some (.string b'.key) ∧ w'.cell? ⟨g, (s''.length + 1) * 11 + 8, none⟩ = some (.string b'.val) ∧ w'.cell? ⟨g, (s''.length + 1) * 11 + 9, none⟩ = some (.bool b'.gone) ∧ w'.cell? ⟨g, (s''.length + 1) * 11 + 10, none⟩ = some qb)
                (first | (refine ⟨?_, ?_, ?_, ?_, ?_, ?_, ?_, ?_, ?_, ?_, ?_, ?_, ?_, ?_, ?_, ?_, ?_, ?_, ?_, ?_, ?_, ?_⟩ <;> with_reducible assumption) | go_keep)
                ((go_at_call 13; refine (HPA.out _ ⟨1, rfl⟩).mono ?_; rintro e w6 ⟨r6, rfl, ho6, hb6⟩; have H6 := Lib.hid ((Qt.below ⟨1, rfl⟩ wr.heap.size : Below wr.heap.size wr wr.drew).trans hb6); obtain ⟨⟨m0, m1, m2, m3, m4, m5, m6, m7, m8, m9, m10⟩, n0, n1, n2, n3, n4, n5, n6, n7, n8, n9, n10⟩ := And.intro (HCE.out.1.below H6.out) (HCE.out.2.below H6.out); have HO6 := Lib.hid ho6; clear ho6 hb6))
              clear hx1 hx2 hx3 hx4 hx5 hx6
              clear c0 c1 c2 c3 c4 c5 c6 c7 c8 c9 c10 d0 d1 d2 d3 d4 d5 d6 d7 d8 d9 d10 m0 m1 m2 m3 m4 m5 m6 m7 m8 m9 m10 n0 n1 n2 n3 n4 n5 n6 n7 n8 n9 n10
              have hx : x'.length ≤ 1 := pair_few C _ _ _ HPV.out
              obtain ⟨ra, rc, rfl⟩ := HO6.out.form
              have HX6 := Lib.hid (HO6.out.mono (base' := w.heap.size) HB4.out.size)
              have HO7 := Lib.hid (HO5.out.below H6.out)
              have hsz6 : w.heap.size ≤ w6.heap.size := Nat.le_trans HB4.out.size H6.out.size
              go_wp2_with (at_builtin; refine wpList_appO rfl (.tmp 45) (.tmp 46) rfl w.heap.size _ _ rfl HO7.out w.heap.size _ x' rfl HX6.out (Nat.le_refl _) (by simp at hlen' ⊢; omega) hsz6 ?_; intro v8 w8 hown8 hg8 hat8)
              go_roundw
              case rel => exact ⟨x'.reverse ++ s'', by simpa using hown8, Lib.hid (by rw [← HT'.out, redS_step (pair_few C) HPV.out]), Lib.hid (fun o ho => by
                rcases List.mem_append.1 ho with ho | ho
                · exact pair_keeps (fun hk l m x h => ((HC.out hk l m).lim x h).1) HPV.out HFA.out.1 HFA.out.2 o (List.mem_reverse.1 ho)
                · exact HF'.out o (by simp [ho])), by simp at hlen' ⊢; omega, below_appO (bNext HB4.out H6.out) HO7.out hg8 hsz6 (Nat.le_refl _)⟩
              case measure => 
                obtain ⟨fa, fc, rfl⟩ := OwnOs.form hown8
                simp [rowLen]; omega
          · obtain ⟨ga, gc, rfl⟩ := HO4.out.form
            rw [List.length_reverse]
            go_wp2_with fail
            go_roundw
            case rel => exact ⟨k + 1, s', by omega, by go_num, by simpa using HO4.out, Lib.hid (by rw [HT.out, HS.out, ← HT'.out, redS_short (by omega)]), HF', hlen', HB4.out⟩
            case measure => simp [intOf]; omega
      · have HI := Lib.hid (show pushS (pairV C) s x = s by unfold pushS; rw [ci]; rfl)
        clear ci
        go_wp2_with fail
        go_roundw
        case rel => exact ⟨k + 1, s, by omega, by go_num, HO.out.below H1.out.bel, Lib.hid (by rw [HT.out, HS.out, HI.out]), HF, by omega, bNext HB.out H1.out.bel⟩
        case measure => simp [intOf]; omega
    · have HK := Lib.hid (show l.take k = l from List.take_of_length_le (by omega))
      go_wp2_with fail
      go_ret
      exact ⟨_, rfl, by rw [listV, ← HK.out, HS.out]; exact HO.out, HB.out⟩
end Go.Proofs.Ytciedipihfkbbaa
