/- Laws: May, Two, Between. -/
import Derived.Test.YtadnijagechkcaaN
namespace Go.Proofs.Ytadnijagechkcaa
open Go.RowKit

theorem order_self {x : Nat} (h : ∀ s t, FloatKind.f64.decode x ≠ .nan s t) : FloatKind.f64.format.order x x = some .eq := by
  show ((FloatKind.f64.format.read x).order (FloatKind.f64.format.read x)) = some .eq
  have h' : ∀ s t, FloatKind.f64.format.read x ≠ .nan s t := h
  generalize FloatKind.f64.format.read x = d at *
  cases d with
  | nan s t => exact absurd rfl (h' s t)
  | infinity s => simp [Ieee.Datum.order]
  | number s m i => simp [Ieee.Datum.order]

theorem read_word (neg : Bool) (r : Nat) (hr : r ≤ 9218868437227405312) : ∀ s t, Ieee.double.read (Ieee.double.word neg r) ≠ .nan s t := by
  intro s t h
  have e1 : Ieee.double.signWeight = 9223372036854775808 := by decide
  have e2 : Ieee.double.infRung = 9218868437227405312 := by decide
  have hm : Ieee.double.word neg r % Ieee.double.signWeight = r := by
    unfold Ieee.Format.word
    rw [e1]
    split <;> omega
  unfold Ieee.Format.read at h
  simp only [hm, e2] at h
  split at h
  · cases h
  · split at h
    · cases h
    · split at h
      · cases h
      · omega

theorem nearest_word (neg : Bool) (mag : Nat) (place : Int) : ∃ r, r ≤ 9218868437227405312 ∧ Ieee.double.nearest neg mag place = Ieee.double.word neg r := by
  have e2 : Ieee.double.infRung = 9218868437227405312 := by decide
  unfold Ieee.Format.nearest
  split
  · exact ⟨0, by omega, rfl⟩
  · exact ⟨_, by rw [← e2]; exact Nat.min_le_right _ _, rfl⟩

theorem int_self (n : Int) : (FloatKind.f64.format.order (floatOfInt .f64 n) (floatOfInt .f64 n) == some Ordering.eq) = true := by
  rw [order_self]
  · rfl
  · intro s t
    obtain ⟨r, hr, e⟩ := nearest_word (n < 0) n.natAbs 0
    show Ieee.double.read (Ieee.double.nearest (n < 0) n.natAbs 0) ≠ _
    rw [e]
    exact read_word _ r hr s t

theorem cx_self (b a : Int) : ((FloatKind.f64.format.order (floatOfInt .f64 b) (floatOfInt .f64 b) == some Ordering.eq) && (FloatKind.f64.format.order (floatOfInt .f64 a) (floatOfInt .f64 a) == some Ordering.eq)) = true := by
  rw [int_self, int_self]; rfl

def Holds1 (w : World) (e : Ending) (w' : World) : Prop := e = .returned (.bool true) ∧ Below w.heap.size w w'

set_option maxHeartbeats 800000 in
theorem lawMay (v : Value) (l : List Int) (w : World) (h : Rd w v l) (hl : l.length ≤ 100) : Calls Try.prog 4 #[v] w (Holds1 w) := by
  have Hv := Lib.hid h
  obtain ⟨a, cap, rfl, hcap, hb, hn, hc⟩ := h
  clear hc hn
  go_enter Try.func4, Try.ntmps4
  go_wp2_with fail
  refine (may_any _ _ _ Hv.out).mono ?_
  rintro e w1 ⟨rfl, rfl⟩
  go_wp2_with fail
  refine (may_ref _ _ _ Hv.out).mono ?_
  rintro e w1 ⟨rfl, hq1⟩
  have HB1 := bQt (Below.refl w.heap.size w) hq1
  clear hq1
  go_wp2_with fail
  refine (works_any _).mono ?_
  rintro e w2 ⟨rfl, hb2⟩
  have HB2 := bNext HB1 hb2
  clear hb2 HB1
  go_wp2_with fail
  go_ret
  exact ⟨rfl, HB2⟩

set_option maxHeartbeats 1600000 in
theorem lawTwo (v u : Value) (l m : List Int) (w : World) (h : Rd w v l) (h' : Rd w u m) (hl : l.length ≤ 100) (hm : m.length ≤ 100) : Calls Try.prog 6 #[v, u] w (Holds1 w) := by
  have Hv := Lib.hid h
  have Hu := Lib.hid h'
  obtain ⟨a, cap, rfl, hcap, hb, hn, hc⟩ := h
  obtain ⟨a', cap', rfl, hcap', hb', hn', hc'⟩ := h'
  clear hc hn hc' hn'
  go_enter Try.func6, Try.ntmps6
  go_wp2_with fail
  refine (same_any _ _ _ _ _ Hv.out Hu.out).mono ?_
  rintro e w1 ⟨rfl, hq1⟩
  have HB1 := bQt (Below.refl w.heap.size w) hq1
  have HV1 := Hv.out.qt hq1
  have HU1 := Hu.out.qt hq1
  clear hq1
  go_wp2_with fail
  refine (same_ref _ _ _ _ _ HV1 HU1).mono ?_
  rintro e w2 ⟨rfl, hq2⟩
  have HB2 := bQt HB1 hq2
  have HV2 := HV1.qt hq2
  have HU2 := HU1.qt hq2
  clear hq2 HB1 HV1 HU1
  go_wp2_with fail
  refine (within_any _ _ _ _ _ HV2 HU2).mono ?_
  rintro e w3 ⟨rfl, hq3⟩
  have HB3 := bQt HB2 hq3
  have HV3 := HV2.qt hq3
  have HU3 := HU2.qt hq3
  clear hq3 HB2 HV2 HU2
  go_wp2_with fail
  refine (within_ref _ _ _ _ _ HV3 HU3).mono ?_
  rintro e w4 ⟨rfl, hq4⟩
  have HB4 := bQt HB3 hq4
  have HV4 := HV3.qt hq4
  have HU4 := HU3.qt hq4
  clear hq4 HB3 HV3 HU3
  go_wp2_with fail
  refine (common_any _ _ _ _ _ HV4 HU4).mono ?_
  rintro e w5 ⟨rfl, hq5⟩
  have HB5 := bQt HB4 hq5
  have HV5 := HV4.qt hq5
  have HU5 := HU4.qt hq5
  clear hq5 HB4 HV4 HU4
  go_wp2_with fail
  refine (common_ref _ _ _ _ _ HV5 HU5).mono ?_
  rintro e w6 ⟨rfl, hq6⟩
  have HB6 := bQt HB5 hq6
  have HV6 := HV5.qt hq6
  have HU6 := HU5.qt hq6
  clear hq6 HB5 HV5 HU5
  go_wp2_with fail
  refine (compare_any _ _ _ _ _ HV6 HU6).mono ?_
  rintro e w7 ⟨rfl, rfl⟩
  go_wp2_with fail
  refine (compare_ref _ _ _ _ _ HV6 HU6).mono ?_
  rintro e w8 ⟨rfl, hq8⟩
  have HB8 := bQt HB6 hq8
  clear hq8 HB6 HV6 HU6
  go_wp2_with fail
  refine (works_any _).mono ?_
  rintro e w9 ⟨rfl, hb9⟩
  have HB9 := bNext HB8 hb9
  clear hb9 HB8
  go_wp2_with fail
  go_ret
  exact ⟨rfl, HB9⟩

theorem bet_yes {l m : List Int} {n : Nat} (hd : DiffAt l m n) : ∃ d : Int, ∀ w e w', BetPost l m w e w' → e = .returned (.tuple #[.complex .f64 (floatOfInt .f64 d) (floatOfInt .f64 (n : Int)), .bool true]) ∧ Qt w w' := by
  refine ⟨m.getD n 0 - l.getD n 0, fun w e w' h => ?_⟩
  rcases h with ⟨h, _⟩ | ⟨n', hd', rfl, hq⟩
  · exact absurd hd (h n)
  · obtain rfl : n' = n := by rw [← hd.isCom, ← hd'.isCom]
    exact ⟨rfl, hq⟩
theorem bet_no {l m : List Int} (hd : ¬ ∃ n, DiffAt l m n) : ∀ w e w', BetPost l m w e w' → e = .returned (.tuple #[.complex .f64 0 0, .bool false]) ∧ Qt w w' := by
  intro w e w' h
  rcases h with ⟨h, rfl, hq⟩ | ⟨n', hd', rfl, hq⟩
  · exact ⟨rfl, hq⟩
  · exact absurd ⟨n', hd'⟩ hd

theorem diff_unique {l m : List Int} {n n' : Nat} (h : DiffAt l m n) (h' : DiffAt l m n') : n' = n := by rw [← h.isCom, ← h'.isCom]

set_option maxHeartbeats 1600000 in
theorem lawBetween (v u : Value) (l m : List Int) (w : World) (h : Rd w v l) (h' : Rd w u m) (hl : l.length ≤ 100) (hm : m.length ≤ 100) : Calls Try.prog 7 #[v, u] w (Holds1 w) := by
  have Hv := Lib.hid h
  have Hu := Lib.hid h'
  obtain ⟨a, cap, rfl, hcap, hb, hn, hc⟩ := h
  obtain ⟨a', cap', rfl, hcap', hb', hn', hc'⟩ := h'
  clear hc hn hc' hn'
  have e0 : ((FloatKind.f64.format.order 0 0 == some Ordering.eq) && (FloatKind.f64.format.order 0 0 == some Ordering.eq)) = true := by kernel_rfl
  by_cases hno : l.length ≠ m.length ∨ mayB l = false ∨ mayB m = false
  · have Hno := Lib.hid hno
    clear hno
    go_enter Try.func7, Try.ntmps7
    go_wp2_with fail
    refine (between_may _ _ _ _ _ Hv.out Hu.out Hno.out).mono ?_
    rintro e w1 ⟨rfl, hq1⟩
    have HB1 := bQt (Below.refl w.heap.size w) hq1
    have HV1 := Hv.out.qt hq1
    have HU1 := Hu.out.qt hq1
    clear hq1
    go_wp2_with fail
    refine (between_ref_may _ _ _ _ _ HV1 HU1 Hno.out).mono ?_
    rintro e w2 ⟨rfl, hq2⟩
    have HB2 := bQt HB1 hq2
    clear hq2 HB1 HV1 HU1
    go_wp2_with fail
    refine (works_any _).mono ?_
    rintro e w9 ⟨rfl, hb9⟩
    have HB9 := bNext HB2 hb9
    clear hb9 HB2
    go_wp2_with fail
    go_ret
    exact ⟨rfl, HB9⟩
  · have hlen : l.length = m.length := Classical.byContradiction fun h => hno (.inl h)
    have h1 : mayB l = true := by cases h : mayB l; exact absurd (.inr (.inl h)) hno; rfl
    have h2 : mayB m = true := by cases h : mayB m; exact absurd (.inr (.inr h)) hno; rfl
    have HL := Lib.hid hlen
    have H1 := Lib.hid h1
    have H2 := Lib.hid h2
    clear hno hlen h1 h2
    by_cases hex : ∃ n, DiffAt l m n
    · obtain ⟨n, hd⟩ := hex
      obtain ⟨d, hy⟩ := bet_yes hd
      have ec := cx_self d n
      have HY := Lib.hid hy
      clear hd hy
      go_enter Try.func7, Try.ntmps7
      go_wp2_with fail
      refine (between_any _ _ _ _ _ Hv.out Hu.out HL.out H1.out H2.out).mono ?_
      rintro e w1 hp
      obtain ⟨rfl, hq1⟩ := HY.out _ _ _ hp
      have HB1 := bQt (Below.refl w.heap.size w) hq1
      have HV1 := Hv.out.qt hq1
      have HU1 := Hu.out.qt hq1
      clear hq1 hp
      go_wp2_with fail
      refine (between_ref _ _ _ _ _ HV1 HU1 HL.out H1.out H2.out).mono ?_
      rintro e w2 hp
      obtain ⟨rfl, hq2⟩ := HY.out _ _ _ hp
      have HB2 := bQt HB1 hq2
      clear hq2 HB1 HV1 HU1 hp
      go_wp2_with fail
      refine (works_any _).mono ?_
      rintro e w9 ⟨rfl, hb9⟩
      have HB9 := bNext HB2 hb9
      clear hb9 HB2
      go_wp2_with fail
      go_ret
      exact ⟨rfl, HB9⟩
    · have HY := Lib.hid (bet_no hex)
      clear hex
      go_enter Try.func7, Try.ntmps7
      go_wp2_with fail
      refine (between_any _ _ _ _ _ Hv.out Hu.out HL.out H1.out H2.out).mono ?_
      rintro e w1 hp
      obtain ⟨rfl, hq1⟩ := HY.out _ _ _ hp
      have HB1 := bQt (Below.refl w.heap.size w) hq1
      have HV1 := Hv.out.qt hq1
      have HU1 := Hu.out.qt hq1
      clear hq1 hp
      go_wp2_with fail
      refine (between_ref _ _ _ _ _ HV1 HU1 HL.out H1.out H2.out).mono ?_
      rintro e w2 hp
      obtain ⟨rfl, hq2⟩ := HY.out _ _ _ hp
      have HB2 := bQt HB1 hq2
      clear hq2 HB1 HV1 HU1 hp
      go_wp2_with fail
      refine (works_any _).mono ?_
      rintro e w9 ⟨rfl, hb9⟩
      have HB9 := bNext HB2 hb9
      clear hb9 HB2
      go_wp2_with fail
      go_ret
      exact ⟨rfl, HB9⟩

/-- What PathOrder asks of three rows. -/
def ordOK (p q r : List Int) : Bool :=
  decide (cmpL q p = - cmpL p q) && (decide (cmpL p q = 0) == decide (p = q)) && (decide (-1 ≤ cmpL p q ∧ cmpL p q ≤ 1) && decide (-1 ≤ cmpL q r ∧ cmpL q r ≤ 1) && decide (-1 ≤ cmpL p r ∧ cmpL p r ≤ 1)) &&
  !(decide (cmpL p q ≤ 0) && decide (cmpL q r ≤ 0) && decide (0 < cmpL p r)) && !(decide (cmpL p q < 0) && decide (cmpL q r ≤ 0) && decide (0 ≤ cmpL p r)) &&
  !(decide (com p q = p.length) && (decide (0 < cmpL p q) || !decide (com p r = p.length) && decide (cmpL r p < 0) && decide (0 ≤ cmpL r q)))
end Go.Proofs.Ytadnijagechkcaa
