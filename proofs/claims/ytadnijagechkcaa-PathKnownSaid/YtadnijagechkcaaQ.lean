/- The law PathParent. -/
import Derived.Test.YtadnijagechkcaaP
namespace Go.Proofs.Ytadnijagechkcaa
open Go.RowKit

theorem Own.form {base : Nat} {w : World} {v : Value} {l : List Int} (h : Own base w v l) : ∃ a cap, v = .slice a l.length cap ∧ l.length ≤ cap ∧ cap ≤ 9223372036854775807 ∧
    (∀ k, k < l.length → ∃ g, a = some ⟨g, 0, none⟩ ∧ base ≤ g ∧ g < w.heap.size) := by
  rcases h.2 with ⟨rfl, hl⟩ | ⟨g, cap, cur, rfl, hb, hh, hl, hm, _⟩
  · exact ⟨none, 0, by rw [hl], by omega, by omega, fun k hk => by omega⟩
  · exact ⟨_, cap, rfl, hl, by unfold maxLen at hm; omega, fun k _ => ⟨g, rfl, hb, (Array.getElem?_eq_some_iff.1 hh).1⟩⟩

theorem grownBy_set {a w : World} {g k : Nat} {u : Value} (h : a.grownBy w (some g)) : a.grownBy (w.setCell ⟨g, k, none⟩ u) (some g) :=
  ⟨h.os, h.tape, h.output, by simpa [World.setCell] using h.size, fun i hi hne => (Below.heap_setCell w ⟨g, k, none⟩ u i (fun e => hne (by rw [e]))).trans (h.block i hi hne)⟩
theorem grownBy_refl (w : World) (r : Option Nat) : w.grownBy w r := World.grownBy.refl w r
theorem below_of_grown {B : Nat} {a w w' : World} {v : Value} {base : Nat} {l : List Int} (h : Below B a w) (hown : Own base w v l) (hg : w.grownBy w' v.ownBlock) (hB : B ≤ w.heap.size) (hbase : B ≤ base) : Below B a w' :=
  below_app h hown hg hB hbase
theorem Own.keptBy {base b2 : Nat} {w w' : World} {v q : Value} {l lq : List Int} (h : Own base w v l) (hq : Own b2 w q lq) (hg : w.grownBy w' q.ownBlock) (hd : (∀ g g', v.ownBlock = some g → q.ownBlock = some g' → g ≠ g')) : Own base w' v l := by
  refine World.ownsRow.kept h hg ?_
  cases hv : v.ownBlock with
  | none => exact .inl rfl
  | some g =>
    right
    intro e
    exact hd g g hv e.symm rfl
theorem Rd.keptBy {base : Nat} {w0 w w' : World} {v q : Value} {l lq : List Int} (h : Rd w0 v l) (hb : Below w0.heap.size w0 w) (hq : Own base w q lq) (hbase : w0.heap.size ≤ base) (hg : w.grownBy w' q.ownBlock) : Below w0.heap.size w0 w' ∧ Rd w' v l :=
  have hh := below_app hb hq hg hb.size hbase
  ⟨hh, h.below hh⟩
theorem own_lt {base : Nat} {w : World} {v : Value} {l : List Int} (h : Own base w v l) : ∀ g, v.ownBlock = some g → base ≤ g ∧ g < w.heap.size := World.ownsRow.lt h

set_option maxHeartbeats 3200000 in
set_option maxRecDepth 100000 in
theorem lawParent_some (v : Value) (l0 : List Int) (y i : Int) (w : World) (h : Rd w v (l0 ++ [y])) (hl : l0.length ≤ 100) : Calls Try.prog 5 #[v, .int .i64 i] w (Holds1 w) := by
  have hlen : (l0 ++ [y]).length = l0.length + 1 := by simp
  have Hv := Lib.hid h
  obtain ⟨a, cap, rfl, hcap, hb, hn, hc⟩ := h
  obtain ⟨bl, o, rfl, hcell⟩ := hc l0.length (by omega)
  have HT := Lib.hid (Hv.out.take (n := l0.length) (by omega))
  rw [List.take_left] at HT
  rw [List.getElem_concat_length rfl] at hcell
  generalize hL : l0 ++ [y] = L at *
  have hLl : L.length = l0.length + 1 := hlen
  have HLL := Lib.hid hLl
  rw [hLl] at hcap ⊢
  have HV : Rd w (.slice (some ⟨bl, o, none⟩) (l0.length + 1) cap) L := by have := Hv.out; rwa [hLl] at this
  clear hn hc Hv hlen hLl
  have HL := Lib.hid hL
  clear hL
  go_enter Try.func5, Try.ntmps5
  go_wp2_with fail
  refine (copied_ref _ _ _ HV (by have := HLL.out; omega)).mono ?_
  rintro e w1 ⟨r1, rfl, HO, hb1⟩
  have HB := hb1
  have HV1 := HV.below hb1
  go_wp2_with fail
  refine (child_any _ _ i _ HO.rd (by have := HLL.out; omega)).mono ?_
  rintro e w2 ⟨r2, rfl, HC, hb2⟩
  have HB2 := bNext HB hb2
  have HV2 := HV1.below hb2
  have HO2 := HO.below hb2
  go_wp2_with fail
  refine (parent_some _ L i _ HC.rd (by have := HLL.out; omega)).mono ?_
  rintro e w3 ⟨r3, rfl, HQ, hb3⟩
  have HB3 := bNext HB2 hb3
  have HV3 := HV2.below hb3
  have HO3 := HO2.below hb3
  have HC3 := HC.below hb3
  have HP := HO3.rd
  rw [← HL.out] at HP
  go_wp2_with fail
  refine (parent_some _ l0 y _ HP (by omega)).mono ?_
  rintro e w4 ⟨r4, rfl, HX, hb4⟩
  have HB4 := bNext HB3 hb4
  have HV4 := HV3.below hb4
  have HO4 := HO3.below hb4
  have HC4 := HC3.below hb4
  have HQ4 := HQ.below hb4
  go_wp2_with fail
  refine (child_ref _ _ i _ HV4 (by have := HLL.out; omega)).mono ?_
  rintro e w5 ⟨r5, rfl, HD, hb5⟩
  have HB5 := bNext HB4 hb5
  have HV5 := HV4.below hb5
  have HO5 := HO4.below hb5
  have HC5 := HC4.below hb5
  have HQ5 := HQ4.below hb5
  have HX5 := HX.below hb5
  have hlt1 := fun g e => (own_lt HO g e).2
  have hlt2 := fun g e => (own_lt HC g e).2
  have hlt3 := fun g e => (own_lt HQ g e).2
  have hsz := And.intro hb1.size (And.intro hb2.size (And.intro hb3.size (And.intro hb4.size hb5.size)))
  clear HV1 HV2 HV3 HV4 HO HO2 HO3 HO4 HC HC3 HC4 HQ HQ4 HX HB HB2 HB3 HB4 HP
  go_wp2_with fail
  refine (sameInts_any _ _ _ _ _ HC5.rd HD.rd).mono ?_
  rintro e w6 ⟨rfl, hq6⟩
  rw [show decide (L ++ [i] = L ++ [i]) = true from decide_eq_true rfl]
  have HB6 := bQt HB5 hq6
  have HV6 := HV5.qt hq6
  have HO6 := HO5.qt hq6
  have HC6 := HC5.qt hq6
  have HQ6 := HQ5.qt hq6
  have HX6 := HX5.qt hq6
  have hz6 := (hq6.below 0).size
  clear HD HV5 HO5 HC5 HQ5 HX5 HB5 hq6
  go_wp2_with fail
  refine (sameInts_any _ _ _ _ _ HQ6.rd HV6).mono ?_
  rintro e w7 ⟨rfl, hq7⟩
  rw [show decide (L = L) = true from decide_eq_true rfl]
  have HB7 := bQt HB6 hq7
  have HV7 := HV6.qt hq7
  have HO7 := HO6.qt hq7
  have HC7 := HC6.qt hq7
  have HQ7 := HQ6.qt hq7
  have HX7 := HX6.qt hq7
  have hz7 := (hq7.below 0).size
  have hcell7 := (HB7.cell (p := ⟨bl, o + l0.length, none⟩) (lt_of_cell hcell)).trans hcell
  have HT7 := HT.out.below HB7
  clear HV6 HO6 HC6 HQ6 HX6 HB6 hq7 HT
  go_wp2_with fail
  refine (sameInts_any _ _ _ _ _ HX7.rd HT7).mono ?_
  rintro e w8 ⟨rfl, hq8⟩
  rw [show decide (l0 = l0) = true from decide_eq_true rfl]
  have HB8 := bQt HB7 hq8
  have HV8 := HV7.qt hq8
  have HO8 := HO7.qt hq8
  have HC8 := HC7.qt hq8
  have HQ8 := HQ7.qt hq8
  have HX8 := HX7.qt hq8
  have hz8 := (hq8.below 0).size
  clear HV7 HO7 HC7 HQ7 HX7 HB7 hq8 HT7 hcell7
  go_wp2_with fail
  obtain ⟨aq, cq, rfl, hq1, hq2, hq3⟩ := HQ8.form
  obtain ⟨ax, cx, rfl, hx1, hx2, hx3⟩ := HX8.form
  obtain ⟨g2, cc, rfl, hc1, hc2, hc3, hc4, -, -⟩ := HC8.open_ (by simp)
  have HQ3 := Lib.hid hq3
  have HX3 := Lib.hid hx3
  clear hq3 hx3
  have hLle : L.length ≤ l0.length + 1 := by have := HLL.out; omega
  go_loopw [13] (fun i wr => ∃ k : Nat, k ≤ L.length ∧ i = .int .i64 k ∧ (∃ l', l'.length = L.length ∧ Own w2.heap.size wr (.slice aq L.length cq) l') ∧ w8.grownBy wr (Value.slice aq L.length cq).ownBlock) (fun i _ => L.length - (intOf i).toNat)
  case atStart => exact ⟨0, Nat.zero_le _, rfl, ⟨L, rfl, HQ8⟩, grownBy_refl _ _⟩
  case round =>
    obtain ⟨k, hk, rfl, ⟨l', hl', hown⟩, hg⟩ := hrel
    have HW := Lib.hid hown
    have HG := Lib.hid hg
    have HL' := Lib.hid hl'
    clear hown hg hl'
    by_cases hlt : k < L.length
    · obtain ⟨g, hgq, hg1, hg2⟩ := HQ3.out k hlt
      subst hgq
      have hop := HW.out
      rw [← HL'.out] at hop
      obtain ⟨g', cap', hev, hg3, hg4, -, -, hg5, hg6⟩ := hop.open_ (by have := HL'.out; omega)
      obtain ⟨rfl, -⟩ : g = g' ∧ True := by injection hev with e1; injection e1 with e1; injection e1 with e1; exact ⟨e1, trivial⟩
      have hc1 := hg5 k (by have := HL'.out; omega)
      have hf1 := hg6 k
      clear hg5 hg6 hev
      have HST := Lib.hid (And.intro (hop.set_ k (-7)) (grownBy_set (k := k) (u := .int .i64 (-7)) HG.out))
      clear hop
      go_wp2_with fail
      go_roundw
      case rel => exact ⟨k + 1, by omega, by go_num, ⟨l'.set k (-7), by rw [List.length_set]; exact HL'.out, by have := HST.out.1; rwa [HL'.out] at this⟩, HST.out.2⟩
      case measure => simp [intOf]; omega
    · obtain rfl : k = L.length := by omega
      have HO9 := HO8.keptBy HQ8 HG.out (fun g g' e e' => by have := hlt1 g e; have := (own_lt HQ8 g' e').1; omega)
      have HC9 := HC8.keptBy HQ8 HG.out (fun g g' e e' => by have := hlt2 g e; have := (own_lt HQ8 g' e').1; omega)
      have HX9 := HX8.keptBy HQ8 HG.out (fun g g' e e' => by have := (own_lt HX8 g e).1; have := hlt3 g' e'; omega)
      have HB9 := below_of_grown HB8 HQ8 HG.out HB8.size (by omega)
      have HV9 := HV.below HB9
      clear HO8 HC8 HX8 HB8 HV8 HQ8 HQ3 HW HG HL'
      go_wp2_with fail
      obtain ⟨w9, hw9⟩ : ∃ w9 : World, w9 = wr := ⟨_, rfl⟩
      subst hw9
      go_loopw [14] (fun i wr => ∃ k : Nat, k ≤ l0.length ∧ i = .int .i64 k ∧ (∃ l', l'.length = l0.length ∧ Own w3.heap.size wr (.slice ax l0.length cx) l') ∧ w9.grownBy wr (Value.slice ax l0.length cx).ownBlock) (fun i _ => l0.length - (intOf i).toNat)
      case atStart => exact ⟨0, Nat.zero_le _, rfl, ⟨l0, rfl, HX9⟩, grownBy_refl _ _⟩
      case round =>
        obtain ⟨k, hk, rfl, ⟨l', hl', hown⟩, hg⟩ := hrel
        have HW := Lib.hid hown
        have HG := Lib.hid hg
        have HL' := Lib.hid hl'
        clear hown hg hl'
        by_cases hlt : k < l0.length
        · obtain ⟨g, hgq, hg1, hg2⟩ := HX3.out k hlt
          subst hgq
          have hop := HW.out
          rw [← HL'.out] at hop
          obtain ⟨g', cap', hev, hg3, hg4, -, -, hg5, hg6⟩ := hop.open_ (by have := HL'.out; omega)
          obtain ⟨rfl, -⟩ : g = g' ∧ True := by injection hev with e1; injection e1 with e1; injection e1 with e1; exact ⟨e1, trivial⟩
          have hc1 := hg5 k (by have := HL'.out; omega)
          have hf1 := hg6 k
          clear hg5 hg6 hev
          have HST := Lib.hid (And.intro (hop.set_ k (-7)) (grownBy_set (k := k) (u := .int .i64 (-7)) HG.out))
          clear hop
          go_wp2_with fail
          go_roundw
          case rel => exact ⟨k + 1, by omega, by go_num, ⟨l'.set k (-7), by rw [List.length_set]; exact HL'.out, by have := HST.out.1; rwa [HL'.out] at this⟩, HST.out.2⟩
          case measure => simp [intOf]; omega
        · obtain rfl : k = l0.length := by omega
          have HO10 := HO9.keptBy HX9 HG.out (fun g g' e e' => by have := hlt1 g e; have := (own_lt HX9 g' e').1; omega)
          have HC10 := HC9.keptBy HX9 HG.out (fun g g' e e' => by have := hlt2 g e; have := (own_lt HX9 g' e').1; omega)
          have HB10 := below_of_grown HB9 HX9 HG.out HB9.size (by omega)
          clear HO9 HC9 HX9 HB9 HV9 HX3 HW HG HL'
          obtain ⟨g', cap', hev, hg3, hg4, -, -, hg5, hg6⟩ := HC10.open_ (by simp)
          obtain ⟨rfl, -⟩ : g2 = g' ∧ True := by injection hev with e1; injection e1 with e1; injection e1 with e1; exact ⟨e1, trivial⟩
          have hc1 := hg5 0 (by simp)
          have hf1 := hg6 0
          clear hg5 hg6 hev
          have HST := Lib.hid (And.intro (HC10.set_ 0 (-7)) (grownBy_set (k := 0) (u := .int .i64 (-7)) (grownBy_refl wr (some g2))))
          have HO11 := HO10.keptBy HC10 HST.out.2 (fun g g' e e' => by have := hlt1 g e; have := (own_lt HC10 g' e').1; omega)
          have HB11 := below_of_grown HB10 HC10 HST.out.2 HB10.size (by omega)
          have HV11 := HV.below HB11
          clear HO10 HB10 HST HC10
          go_wp2_with fail
          refine (sameInts_any _ _ _ _ _ HO11.rd HV11).mono ?_
          rintro e w12 ⟨rfl, hq12⟩
          rw [show decide (L = L) = true from decide_eq_true rfl]
          have HB12 := bQt HB11 hq12
          clear hq12 HB11 HV11 HO11 hc1 hf1
          go_wp2_with fail
          refine (works_any _).mono ?_
          rintro e w13 ⟨rfl, hb13⟩
          have HB13 := bNext HB12 hb13
          clear hb13 HB12
          go_wp2_with fail
          go_ret
          exact ⟨rfl, HB13⟩
end Go.Proofs.Ytadnijagechkcaa
