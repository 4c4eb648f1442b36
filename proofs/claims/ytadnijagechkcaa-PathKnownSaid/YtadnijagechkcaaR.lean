/- The laws PathParent (of the root) and PathShift. -/
import Derived.Test.YtadnijagechkcaaQ
namespace Go.Proofs.Ytadnijagechkcaa
open Go.RowKit

set_option maxHeartbeats 3200000 in
set_option maxRecDepth 100000 in
theorem lawParent_nil (v : Value) (i : Int) (w : World) (h : Rd w v []) : Calls Try.prog 5 #[v, .int .i64 i] w (Holds1 w) := by
  have HV := Lib.hid h
  obtain ⟨a, cap, rfl, hcap, hb, hn, hc⟩ := h
  clear hc hn
  simp only [List.length_nil] at *
  go_enter Try.func5, Try.ntmps5
  go_wp2_with fail
  refine (copied_ref _ _ _ HV.out (by simp)).mono ?_
  rintro e w1 ⟨r1, rfl, HO, hb1⟩
  have HB := hb1
  have HV1 := HV.out.below hb1
  obtain ⟨a1, c1, rfl, ha1, ha2, -⟩ := HO.form
  simp only [List.length_nil] at *
  go_wp2_with fail
  refine (child_any _ _ i _ HO.rd (by simp)).mono ?_
  rintro e w2 ⟨r2, rfl, HC, hb2⟩
  have HB2 := bNext HB hb2
  have HV2 := HV1.below hb2
  have HO2 := HO.below hb2
  go_wp2_with fail
  refine (parent_some _ [] i _ HC.rd (by simp)).mono ?_
  rintro e w3 ⟨r3, rfl, HQ, hb3⟩
  have HB3 := bNext HB2 hb3
  have HV3 := HV2.below hb3
  have HO3 := HO2.below hb3
  have HC3 := HC.below hb3
  go_wp2_with fail
  refine (parent_none _ _ _).mono ?_
  rintro e w4 ⟨rfl, rfl⟩
  go_wp2_with fail
  refine (child_ref _ _ i _ HV3 (by simp)).mono ?_
  rintro e w5 ⟨r5, rfl, HD, hb5⟩
  have HB5 := bNext HB3 hb5
  have HV5 := HV3.below hb5
  have HO5 := HO3.below hb5
  have HC5 := HC3.below hb5
  have HQ5 := HQ.below hb5
  have hlt1 := fun g e => (own_lt HO g e).2
  have hsz := hb1.size
  clear HV1 HV2 HV3 HO HO2 HO3 HC HC3 HQ HB HB2 HB3
  go_wp2_with fail
  refine (sameInts_any _ _ _ _ _ HC5.rd HD.rd).mono ?_
  rintro e w6 ⟨rfl, hq6⟩
  rw [show decide (([] : List Int) ++ [i] = [] ++ [i]) = true from decide_eq_true rfl]
  have HB6 := bQt HB5 hq6
  have HV6 := HV5.qt hq6
  have HO6 := HO5.qt hq6
  have HC6 := HC5.qt hq6
  have HQ6 := HQ5.qt hq6
  clear HD HV5 HO5 HC5 HQ5 HB5 hq6
  go_wp2_with fail
  refine (sameInts_any _ _ _ _ _ HQ6.rd HV6).mono ?_
  rintro e w7 ⟨rfl, hq7⟩
  rw [show decide (([] : List Int) = []) = true from decide_eq_true rfl]
  have HB7 := bQt HB6 hq7
  have HO7 := HO6.qt hq7
  have HC7 := HC6.qt hq7
  have HQ7 := HQ6.qt hq7
  clear HV6 HO6 HC6 HQ6 HB6 hq7
  obtain ⟨aq, cq, rfl, hq1, hq2, -⟩ := HQ7.form
  obtain ⟨g2, cc, rfl, hc1, hc2, hc3, hc4, hg5, hg6⟩ := HC7.open_ (by simp)
  simp only [List.length_nil] at *
  have hcc := hg5 0 (by simp)
  have hff := hg6 0
  clear hg5 hg6
  have HST := Lib.hid (And.intro (HC7.set_ 0 (-7)) (grownBy_set (k := 0) (u := .int .i64 (-7)) (grownBy_refl w7 (some g2))))
  have HO11 := HO7.keptBy HC7 HST.out.2 (fun g g' e e' => by have := hlt1 g e; have := (own_lt HC7 g' e').1; omega)
  have HB11 := below_of_grown HB7 HC7 HST.out.2 HB7.size (by omega)
  have HV11 := HV.out.below HB11
  clear HO7 HB7 HST HQ7
  go_wp2_with fail
  go_loop [13] (fun i => i = .int .i64 0) (fun _ => 0)
  case atStart => rfl
  case round =>
    subst hrel
    go_wp2_with fail
    go_loop [14] (fun i => i = .int .i64 0) (fun _ => 0)
    case atStart => rfl
    case round =>
      subst hrel
      go_wp2_with fail
      refine (sameInts_any _ _ _ _ _ HO11.rd HV11).mono ?_
      rintro e w12 ⟨rfl, hq12⟩
      rw [show decide (([] : List Int) = []) = true from decide_eq_true rfl]
      have HB12 := bQt HB11 hq12
      clear hq12 HB11 HV11 HO11 hcc hff
      go_wp2_with fail
      refine (works_any _).mono ?_
      rintro e w13 ⟨rfl, hb13⟩
      have HB13 := bNext HB12 hb13
      clear hb13 HB12
      go_wp2_with fail
      go_ret
      exact ⟨rfl, HB13⟩

theorem lawParent (v : Value) (l : List Int) (i : Int) (w : World) (h : Rd w v l) (hl : l.length ≤ 100) : Calls Try.prog 5 #[v, .int .i64 i] w (Holds1 w) := by
  rcases List.eq_nil_or_concat l with rfl | ⟨l0, y, rfl⟩
  · exact lawParent_nil v i w h
  · rw [List.concat_eq_append] at h hl
    exact lawParent_some v l0 y i w h (by simp at hl; omega)

/-- A shift of which it is known whether it may be. -/
def Zknown (re im : Nat) : Prop := (∃ a b, Zyes re im a b) ∨ Zno re im

set_option maxHeartbeats 1600000 in
set_option maxRecDepth 100000 in
theorem lawShift_err (v : Value) (l : List Int) (re im : Nat) (k : Int) (hk : 1 ≤ k) (hk' : k ≤ 9) (w : World) (h : Rd w v l) (hl : l.length ≤ 100)
    (c1 : ∀ u w, Rd w u l → Calls Try.prog 30 #[u, .complex .f64 re im] w (GivesErr k w))
    (c2 : ∀ u w, Rd w u l → Calls Try.prog 31 #[u, .complex .f64 re im] w (GivesErr k w)) :
    Calls Try.prog 9 #[v, .complex .f64 re im] w (Holds1 w) := by
  have C1 := Lib.hid c1
  have C2 := Lib.hid c2
  have HV := Lib.hid h
  clear c1 c2
  obtain ⟨a, cap, rfl, hcap, hb, hn, hc⟩ := h
  clear hc hn
  go_enter Try.func9, Try.ntmps9
  go_wp2_with fail
  refine (copied_ref _ _ _ HV.out (by omega)).mono ?_
  rintro e w1 ⟨r1, rfl, HO, hb1⟩
  go_wp2_with fail
  refine (C1.out _ _ HO.rd).mono ?_
  rintro e w2 ⟨rfl, hb2⟩
  have HB2 := bNext hb1 hb2
  have HV2 := HV.out.below HB2
  have HO2 := HO.below hb2
  clear hb1 hb2 HO
  go_wp2_with fail
  refine (C2.out _ _ HV2).mono ?_
  rintro e w3 ⟨rfl, hb3⟩
  have HB3 := bNext HB2 hb3
  have HV3 := HV2.below hb3
  have HO3 := HO2.below hb3
  clear hb3 HB2 HV2 HO2
  go_wp2_with fail
  refine (sameInts_any _ _ [] [] _ ⟨none, 0, rfl, by simp, by omega, fun _ => rfl, fun j hj => by simp at hj⟩ ⟨none, 0, rfl, by simp, by omega, fun _ => rfl, fun j hj => by simp at hj⟩).mono ?_
  rintro e w4 ⟨rfl, hq4⟩
  rw [show decide (([] : List Int) = []) = true from decide_eq_true rfl]
  have HB4 := bQt HB3 hq4
  have HV4 := HV3.qt hq4
  have HO4 := HO3.qt hq4
  clear hq4 HB3 HV3 HO3
  go_wp2_with fail
  go_loop [10] (fun i => i = .int .i64 0) (fun _ => 0)
  case atStart => rfl
  case round =>
    subst hrel
    go_wp2_with fail
    refine (sameInts_any _ _ _ _ _ HO4.rd HV4).mono ?_
    rintro e w12 ⟨rfl, hq12⟩
    rw [show decide (l = l) = true from decide_eq_true rfl]
    have HB12 := bQt HB4 hq12
    clear hq12 HB4 HV4 HO4
    go_wp2_with fail
    refine (works_any _).mono ?_
    rintro e w13 ⟨rfl, hb13⟩
    have HB13 := bNext HB12 hb13
    clear hb13 HB12
    go_wp2_with fail
    go_ret
    exact ⟨rfl, HB13⟩

set_option maxHeartbeats 1600000 in
set_option maxRecDepth 100000 in
theorem lawShift_ok (v : Value) (l m : List Int) (re im : Nat) (w : World) (h : Rd w v l) (hl : l.length ≤ 100) (hm : m.length ≤ 100)
    (c1 : ∀ u w, Rd w u l → Calls Try.prog 30 #[u, .complex .f64 re im] w (GivesOk m w))
    (c2 : ∀ u w, Rd w u l → Calls Try.prog 31 #[u, .complex .f64 re im] w (GivesOk m w)) :
    Calls Try.prog 9 #[v, .complex .f64 re im] w (Holds1 w) := by
  have C1 := Lib.hid c1
  have C2 := Lib.hid c2
  have HV := Lib.hid h
  clear c1 c2
  obtain ⟨a, cap, rfl, hcap, hb, hn, hc⟩ := h
  clear hc hn
  go_enter Try.func9, Try.ntmps9
  go_wp2_with fail
  refine (copied_ref _ _ _ HV.out (by omega)).mono ?_
  rintro e w1 ⟨r1, rfl, HO, hb1⟩
  have hlt1 := fun g e => (own_lt HO g e).2
  go_wp2_with fail
  refine (C1.out _ _ HO.rd).mono ?_
  rintro e w2 ⟨r2, rfl, HA, hb2⟩
  have HB2 := bNext hb1 hb2
  have HV2 := HV.out.below HB2
  have HO2 := HO.below hb2
  have hsz := hb1.size
  clear hb1 hb2 HO
  obtain ⟨aa, ca, rfl, ha1, ha2, ha3⟩ := HA.form
  have HA3 := Lib.hid ha3
  clear ha3
  go_wp2_with fail
  refine (C2.out _ _ HV2).mono ?_
  rintro e w3 ⟨r3, rfl, HD, hb3⟩
  have HB3 := bNext HB2 hb3
  have HV3 := HV2.below hb3
  have HO3 := HO2.below hb3
  have HA4 := HA.below hb3
  clear hb3 HB2 HV2 HO2 HA
  go_wp2_with fail
  refine (sameInts_any _ _ _ _ _ HA4.rd HD.rd).mono ?_
  rintro e w4 ⟨rfl, hq4⟩
  rw [show decide (m = m) = true from decide_eq_true rfl]
  have HB4 := bQt HB3 hq4
  have HO4 := HO3.qt hq4
  have HA5 := HA4.qt hq4
  clear hq4 HB3 HV3 HO3 HA4 HD
  go_wp2_with fail
  go_loopw [10] (fun i wr => ∃ k : Nat, k ≤ m.length ∧ i = .int .i64 k ∧ (∃ l', l'.length = m.length ∧ Own w1.heap.size wr (.slice aa m.length ca) l') ∧ w4.grownBy wr (Value.slice aa m.length ca).ownBlock) (fun i _ => m.length - (intOf i).toNat)
  case atStart => exact ⟨0, Nat.zero_le _, rfl, ⟨m, rfl, HA5⟩, grownBy_refl _ _⟩
  case round =>
    obtain ⟨k, hk, rfl, ⟨l', hl', hown⟩, hg⟩ := hrel
    have HW := Lib.hid hown
    have HG := Lib.hid hg
    have HL' := Lib.hid hl'
    clear hown hg hl'
    by_cases hlt : k < m.length
    · obtain ⟨g, hgq, hg1, hg2⟩ := HA3.out k hlt
      subst hgq
      have hop := HW.out
      rw [← HL'.out] at hop
      obtain ⟨g', cap', hev, hg3, hg4, -, -, hg5, hg6⟩ := hop.open_ (by have := HL'.out; omega)
      obtain ⟨rfl, -⟩ : g = g' ∧ True := by injection hev with e1; injection e1 with e1; injection e1 with e1; exact ⟨e1, trivial⟩
      have hc1 := hg5 k (by have := HL'.out; omega)
      have hf1 := hg6 k
      clear hg5 hg6 hev
      have HST := Lib.hid (And.intro (hop.set_ k (-7)) (grownBy_set (k := k) (u := .int .i64 (-7)) HG.out))
      clear hop
      go_wp2_with fail
      go_roundw
      case rel => exact ⟨k + 1, by omega, by go_num, ⟨l'.set k (-7), by rw [List.length_set]; exact HL'.out, by have := HST.out.1; rwa [HL'.out] at this⟩, HST.out.2⟩
      case measure => simp [intOf]; omega
    · obtain rfl : k = m.length := by omega
      have HO11 := HO4.keptBy HA5 HG.out (fun g g' e e' => by have := hlt1 g e; have := (own_lt HA5 g' e').1; omega)
      have HB11 := below_of_grown HB4 HA5 HG.out HB4.size (by omega)
      have HV11 := HV.out.below HB11
      clear HO4 HB4 HA5 HA3 HW HG HL'
      go_wp2_with fail
      refine (sameInts_any _ _ _ _ _ HO11.rd HV11).mono ?_
      rintro e w12 ⟨rfl, hq12⟩
      rw [show decide (l = l) = true from decide_eq_true rfl]
      have HB12 := bQt HB11 hq12
      clear hq12 HB11 HV11 HO11
      go_wp2_with fail
      refine (works_any _).mono ?_
      rintro e w13 ⟨rfl, hb13⟩
      have HB13 := bNext HB12 hb13
      clear hb13 HB12
      go_wp2_with fail
      go_ret
      exact ⟨rfl, HB13⟩

theorem lawShift (v : Value) (l : List Int) (re im : Nat) (w : World) (h : Rd w v l) (hl : l.length ≤ 100) (hz : Zknown re im) : Calls Try.prog 9 #[v, .complex .f64 re im] w (Holds1 w) := by
  rcases hz with ⟨a, b, hz⟩ | hz
  · by_cases h1 : mayB l = false ∨ l.length ≤ a
    · exact lawShift_err v l re im 2 (by omega) (by omega) w h hl (fun u w hu => shift_bad u l re im a b w hz hu h1) (fun u w hu => shift_ref_bad u l re im a b w hz hu h1)
    · have hm : mayB l = true := by cases hh : mayB l; exact absurd (.inl hh) h1; rfl
      have ha : a < l.length := Nat.lt_of_not_le fun hh => h1 (.inr hh)
      by_cases h2 : l[a] + b < 0 ∨ 1048576 ≤ l[a] + b
      · exact lawShift_err v l re im 3 (by omega) (by omega) w h hl (fun u w hu => shift_limit u l re im a b w hz hu hm ha h2) (fun u w hu => shift_ref_limit u l re im a b w hz hu hm ha h2)
      · exact lawShift_ok v l (l.set a (l[a] + b)) re im w h hl (by simpa using hl) (fun u w hu => shift_ok u l re im a b w hz hu hm ha (by omega) (by omega)) (fun u w hu => shift_ref_ok u l re im a b w hz hu hm ha (by omega) (by omega))
  · exact lawShift_err v l re im 2 (by omega) (by omega) w h hl (fun u w hu => shift_no u l re im w hz) (fun u w hu => shift_ref_no u l re im w hz)
end Go.Proofs.Ytadnijagechkcaa
