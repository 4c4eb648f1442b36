/- The law PathBack. -/
import Derived.Test.YtadnijagechkcaaR
namespace Go.Proofs.Ytadnijagechkcaa
open Go.RowKit

/-- What Shift answers: a row, and an error's number. -/
def GivesAny (m : List Int) (k : Int) (w : World) (e : Ending) (w' : World) : Prop := ∃ r, e = .returned (.tuple #[r, .int .i64 k]) ∧ Rd w' r m ∧ Below w.heap.size w w'
def ShIs (l : List Int) (re im : Nat) (m : List Int) (k : Int) : Prop := ∀ u w, Rd w u l → Calls Try.prog 30 #[u, .complex .f64 re im] w (GivesAny m k w)

theorem rd_nil (w : World) : Rd w (.slice none 0 0) [] := ⟨none, 0, rfl, by simp, by omega, fun _ => rfl, fun j hj => by simp at hj⟩
theorem shIs_err {l : List Int} {re im : Nat} {k : Int} (c : ∀ u w, Rd w u l → Calls Try.prog 30 #[u, .complex .f64 re im] w (GivesErr k w)) : ShIs l re im [] k :=
  fun u w h => (c u w h).mono fun _ _ ⟨he, hb⟩ => ⟨_, he, rd_nil _, hb⟩
theorem shIs_ok {l m : List Int} {re im : Nat} (c : ∀ u w, Rd w u l → Calls Try.prog 30 #[u, .complex .f64 re im] w (GivesOk m w)) : ShIs l re im m 0 :=
  fun u w h => (c u w h).mono fun _ _ ⟨r, he, ho, hb⟩ => ⟨r, he, ho.rd, hb⟩

/-- A shift of a path comes to an error, or to the path with one number other. -/
theorem shIs_cases (l : List Int) (re im : Nat) (hz : Zknown re im) : (∃ k, (k = 2 ∨ k = 3) ∧ ShIs l re im [] k) ∨
    ∃ a b, Zyes re im a b ∧ mayB l = true ∧ ∃ ha : a < l.length, 0 ≤ l[a] + b ∧ l[a] + b < 1048576 ∧ ShIs l re im (l.set a (l[a] + b)) 0 := by
  rcases hz with ⟨a, b, hz⟩ | hz
  · by_cases h1 : mayB l = false ∨ l.length ≤ a
    · exact .inl ⟨2, .inl rfl, shIs_err fun u w hu => shift_bad u l re im a b w hz hu h1⟩
    · have hm : mayB l = true := by cases hh : mayB l; exact absurd (.inl hh) h1; rfl
      have ha : a < l.length := Nat.lt_of_not_le fun hh => h1 (.inr hh)
      by_cases h2 : l[a] + b < 0 ∨ 1048576 ≤ l[a] + b
      · exact .inl ⟨3, .inr rfl, shIs_err fun u w hu => shift_limit u l re im a b w hz hu hm ha h2⟩
      · exact .inr ⟨a, b, hz, hm, ha, by omega, by omega, shIs_ok fun u w hu => shift_ok u l re im a b w hz hu hm ha (by omega) (by omega)⟩
  · exact .inl ⟨2, .inl rfl, shIs_err fun u w hu => shift_no u l re im w hz⟩

set_option maxHeartbeats 800000 in
set_option maxRecDepth 100000 in
theorem back_err (v : Value) (l : List Int) (re im re2 im2 : Nat) (k : Int) (hk : k = 2 ∨ k = 3) (w : World) (h : Rd w v l) (hl : l.length ≤ 100) (c : ShIs l re im [] k) :
    Calls Try.prog 10 #[v, .complex .f64 re im, .complex .f64 re2 im2] w (Holds1 w) := by
  have C := Lib.hid c
  have HV := Lib.hid h
  obtain ⟨a, cap, rfl, hcap, hb, hn, hc⟩ := h
  clear hc hn c
  have hk1 : 1 ≤ k := by omega
  have hk2 : (k != 0) = true := by rcases hk with rfl | rfl <;> rfl
  clear hk
  go_enter Try.func10, Try.ntmps10
  go_wp2_with fail
  refine (C.out _ _ HV.out).mono ?_
  rintro e w1 ⟨r1, rfl, HA, hb1⟩
  obtain ⟨aa, ca, rfl, ha1, ha2, -⟩ := HA
  simp only [List.length_nil]
  go_wp2_with fail
  refine (works_any _).mono ?_
  rintro e w13 ⟨rfl, hb13⟩
  have HB13 := bNext hb1 hb13
  clear hb13 hb1
  go_wp2_with fail
  go_ret
  exact ⟨rfl, HB13⟩

/-- What Between answers of the path and the path shifted. -/
def BetIs (l m : List Int) (yr yi : Nat) (t : Bool) : Prop := ∀ u u' w, Rd w u l → Rd w u' m → Calls Try.prog 28 #[u, u'] w (GivesZ yr yi t w)

set_option maxHeartbeats 6400000 in
set_option maxRecDepth 100000 in
theorem back_core (v : Value) (l m mc md : List Int) (re im re2 im2 yr yi : Nat) (t q : Bool) (kg kh : Int) (w : World) (h : Rd w v l) (hl : l.length ≤ 100)
    (c1 : Hid (ShIs l re im m 0)) (c2 : Hid (ShIs m (Op.negFloat .f64 re) im l 0)) (c3 : Hid (BetIs l m yr yi t)) (c4 : Hid (ShIs m re2 im2 mc kg)) (c5 : Hid (ShIs l re2 im2 md kh))
    (c6 : Hid (q = false → kg = 0 → kh = 0 → ShIs md re im mc 0))
    (hr : (FloatKind.f64.format.order re 0 != some Ordering.eq) = t)
    (hy : t = true → ((FloatKind.f64.format.order yr re == some Ordering.eq) && (FloatKind.f64.format.order yi im == some Ordering.eq)) = true)
    (hq : (FloatKind.f64.format.order im im2 == some Ordering.eq) = q) (hg : kg = 0 ∨ kg = 2 ∨ kg = 3) (hh : kh = 0 ∨ kh = 2 ∨ kh = 3) :
    Calls Try.prog 10 #[v, .complex .f64 re im, .complex .f64 re2 im2] w (Holds1 w) := by
  have kn : ∀ b, Op.unary .neg (.float .f64 b) = pure (.float .f64 (Op.negFloat .f64 b)) := fun b => rfl
  have HV := Lib.hid h
  obtain ⟨a, cap, rfl, hcap, hb, hn, hc⟩ := h
  clear hc hn
  have hcase : ((q = true) ∨ (q = false ∧ (kg != 0) = true) ∨ (q = false ∧ kg = 0 ∧ (kh != 0) = true)) ∨ (q = false ∧ kg = 0 ∧ kh = 0) := by
    cases q
    · rcases hg with rfl | rfl | rfl <;> rcases hh with rfl | rfl | rfl <;> simp
    · simp
  clear hg hh
  have HR := Lib.hid hr
  clear hr
  cases t
  · have hr' := HR.out
    clear hy
    rcases hcase with hcase | hcase
    · rcases hcase with rfl | ⟨rfl, hg⟩ | ⟨rfl, rfl, hh⟩
      all_goals
        go_enter Try.func10, Try.ntmps10
        go_wp2_with fail
        refine (c1.out _ _ HV.out).mono ?_
        rintro e w1 ⟨r1, rfl, HA, hb1⟩
        have HB1 := hb1
        have HV1 := HV.out.below hb1
        clear hb1
        go_wp2_with fail
        refine (c2.out _ _ HA).mono ?_
        rintro e w2 ⟨r2, rfl, HC, hb2⟩
        have HB2 := bNext HB1 hb2
        have HV2 := HV1.below hb2
        have HA2 := HA.below hb2
        clear hb2 HB1 HV1 HA
        go_wp2_with fail
        refine (c3.out _ _ _ HV2 HA2).mono ?_
        rintro e w3 ⟨rfl, hq3⟩
        have HB3 := bQt HB2 hq3
        have HV3 := HV2.qt hq3
        have HA3 := HA2.qt hq3
        have HC3 := HC.qt hq3
        clear hq3 HB2 HV2 HA2 HC
        go_wp2_with fail
        refine (sameInts_any _ _ _ _ _ HC3 HV3).mono ?_
        rintro e w4 ⟨rfl, hq4⟩
        rw [show decide (l = l) = true from decide_eq_true rfl]
        have HB4 := bQt HB3 hq4
        have HV4 := HV3.qt hq4
        have HA4 := HA3.qt hq4
        clear hq4 HB3 HV3 HA3 HC3
        go_wp2_with fail
        refine (c4.out _ _ HA4).mono ?_
        rintro e w5 ⟨r5, rfl, HD, hb5⟩
        have HB5 := bNext HB4 hb5
        have HV5 := HV4.below hb5
        clear hb5 HB4 HV4 HA4
        go_wp2_with fail
        refine (c5.out _ _ HV5).mono ?_
        rintro e w6 ⟨r6, rfl, HE, hb6⟩
        have HB6 := bNext HB5 hb6
        have HD6 := HD.below hb6
        clear hb6 HB5 HV5 HD
        go_wp2_with fail
        refine (works_any _).mono ?_
        rintro e w13 ⟨rfl, hb13⟩
        have HB13 := bNext HB6 hb13
        clear hb13 HB6
        go_wp2_with fail
        go_ret
        exact ⟨rfl, HB13⟩
    · obtain ⟨rfl, rfl, rfl⟩ := hcase
      have c7 := Lib.hid (c6.out rfl rfl rfl)
      clear c6
      go_enter Try.func10, Try.ntmps10
      go_wp2_with fail
      refine (c1.out _ _ HV.out).mono ?_
      rintro e w1 ⟨r1, rfl, HA, hb1⟩
      have HB1 := hb1
      have HV1 := HV.out.below hb1
      clear hb1
      go_wp2_with fail
      refine (c2.out _ _ HA).mono ?_
      rintro e w2 ⟨r2, rfl, HC, hb2⟩
      have HB2 := bNext HB1 hb2
      have HV2 := HV1.below hb2
      have HA2 := HA.below hb2
      clear hb2 HB1 HV1 HA
      go_wp2_with fail
      refine (c3.out _ _ _ HV2 HA2).mono ?_
      rintro e w3 ⟨rfl, hq3⟩
      have HB3 := bQt HB2 hq3
      have HV3 := HV2.qt hq3
      have HA3 := HA2.qt hq3
      have HC3 := HC.qt hq3
      clear hq3 HB2 HV2 HA2 HC
      go_wp2_with fail
      refine (sameInts_any _ _ _ _ _ HC3 HV3).mono ?_
      rintro e w4 ⟨rfl, hq4⟩
      rw [show decide (l = l) = true from decide_eq_true rfl]
      have HB4 := bQt HB3 hq4
      have HV4 := HV3.qt hq4
      have HA4 := HA3.qt hq4
      clear hq4 HB3 HV3 HA3 HC3
      go_wp2_with fail
      refine (c4.out _ _ HA4).mono ?_
      rintro e w5 ⟨r5, rfl, HD, hb5⟩
      have HB5 := bNext HB4 hb5
      have HV5 := HV4.below hb5
      clear hb5 HB4 HV4 HA4
      go_wp2_with fail
      refine (c5.out _ _ HV5).mono ?_
      rintro e w6 ⟨r6, rfl, HE, hb6⟩
      have HB6 := bNext HB5 hb6
      have HD6 := HD.below hb6
      clear hb6 HB5 HV5 HD
      go_wp2_with fail
      refine (c7.out _ _ HE).mono ?_
      rintro e w7 ⟨r7, rfl, HF, hb7⟩
      have HB7 := bNext HB6 hb7
      have HD7 := HD6.below hb7
      clear HB6
      go_wp2_with fail
      refine (sameInts_any _ _ _ _ _ HD7 HF).mono ?_
      rintro e w8 ⟨rfl, hq8⟩
      rw [show decide (mc = mc) = true from decide_eq_true rfl]
      have HB6 := bQt HB7 hq8
      clear hq8 HB7
      go_wp2_with fail
      refine (works_any _).mono ?_
      rintro e w13 ⟨rfl, hb13⟩
      have HB13 := bNext HB6 hb13
      clear hb13 HB6
      go_wp2_with fail
      go_ret
      exact ⟨rfl, HB13⟩
  · have hr' := HR.out
    have hy' := hy rfl
    clear hy
    rcases hcase with hcase | hcase
    · rcases hcase with rfl | ⟨rfl, hg⟩ | ⟨rfl, rfl, hh⟩
      all_goals
        go_enter Try.func10, Try.ntmps10
        go_wp2_with fail
        refine (c1.out _ _ HV.out).mono ?_
        rintro e w1 ⟨r1, rfl, HA, hb1⟩
        have HB1 := hb1
        have HV1 := HV.out.below hb1
        clear hb1
        go_wp2_with fail
        refine (c2.out _ _ HA).mono ?_
        rintro e w2 ⟨r2, rfl, HC, hb2⟩
        have HB2 := bNext HB1 hb2
        have HV2 := HV1.below hb2
        have HA2 := HA.below hb2
        clear hb2 HB1 HV1 HA
        go_wp2_with fail
        refine (c3.out _ _ _ HV2 HA2).mono ?_
        rintro e w3 ⟨rfl, hq3⟩
        have HB3 := bQt HB2 hq3
        have HV3 := HV2.qt hq3
        have HA3 := HA2.qt hq3
        have HC3 := HC.qt hq3
        clear hq3 HB2 HV2 HA2 HC
        go_wp2_with fail
        refine (sameInts_any _ _ _ _ _ HC3 HV3).mono ?_
        rintro e w4 ⟨rfl, hq4⟩
        rw [show decide (l = l) = true from decide_eq_true rfl]
        have HB4 := bQt HB3 hq4
        have HV4 := HV3.qt hq4
        have HA4 := HA3.qt hq4
        clear hq4 HB3 HV3 HA3 HC3
        go_wp2_with fail
        refine (c4.out _ _ HA4).mono ?_
        rintro e w5 ⟨r5, rfl, HD, hb5⟩
        have HB5 := bNext HB4 hb5
        have HV5 := HV4.below hb5
        clear hb5 HB4 HV4 HA4
        go_wp2_with fail
        refine (c5.out _ _ HV5).mono ?_
        rintro e w6 ⟨r6, rfl, HE, hb6⟩
        have HB6 := bNext HB5 hb6
        have HD6 := HD.below hb6
        clear hb6 HB5 HV5 HD
        go_wp2_with fail
        refine (works_any _).mono ?_
        rintro e w13 ⟨rfl, hb13⟩
        have HB13 := bNext HB6 hb13
        clear hb13 HB6
        go_wp2_with fail
        go_ret
        exact ⟨rfl, HB13⟩
    · obtain ⟨rfl, rfl, rfl⟩ := hcase
      have c7 := Lib.hid (c6.out rfl rfl rfl)
      clear c6
      go_enter Try.func10, Try.ntmps10
      go_wp2_with fail
      refine (c1.out _ _ HV.out).mono ?_
      rintro e w1 ⟨r1, rfl, HA, hb1⟩
      have HB1 := hb1
      have HV1 := HV.out.below hb1
      clear hb1
      go_wp2_with fail
      refine (c2.out _ _ HA).mono ?_
      rintro e w2 ⟨r2, rfl, HC, hb2⟩
      have HB2 := bNext HB1 hb2
      have HV2 := HV1.below hb2
      have HA2 := HA.below hb2
      clear hb2 HB1 HV1 HA
      go_wp2_with fail
      refine (c3.out _ _ _ HV2 HA2).mono ?_
      rintro e w3 ⟨rfl, hq3⟩
      have HB3 := bQt HB2 hq3
      have HV3 := HV2.qt hq3
      have HA3 := HA2.qt hq3
      have HC3 := HC.qt hq3
      clear hq3 HB2 HV2 HA2 HC
      go_wp2_with fail
      refine (sameInts_any _ _ _ _ _ HC3 HV3).mono ?_
      rintro e w4 ⟨rfl, hq4⟩
      rw [show decide (l = l) = true from decide_eq_true rfl]
      have HB4 := bQt HB3 hq4
      have HV4 := HV3.qt hq4
      have HA4 := HA3.qt hq4
      clear hq4 HB3 HV3 HA3 HC3
      go_wp2_with fail
      refine (c4.out _ _ HA4).mono ?_
      rintro e w5 ⟨r5, rfl, HD, hb5⟩
      have HB5 := bNext HB4 hb5
      have HV5 := HV4.below hb5
      clear hb5 HB4 HV4 HA4
      go_wp2_with fail
      refine (c5.out _ _ HV5).mono ?_
      rintro e w6 ⟨r6, rfl, HE, hb6⟩
      have HB6 := bNext HB5 hb6
      have HD6 := HD.below hb6
      clear hb6 HB5 HV5 HD
      go_wp2_with fail
      refine (c7.out _ _ HE).mono ?_
      rintro e w7 ⟨r7, rfl, HF, hb7⟩
      have HB7 := bNext HB6 hb7
      have HD7 := HD6.below hb7
      clear HB6
      go_wp2_with fail
      refine (sameInts_any _ _ _ _ _ HD7 HF).mono ?_
      rintro e w8 ⟨rfl, hq8⟩
      rw [show decide (mc = mc) = true from decide_eq_true rfl]
      have HB6 := bQt HB7 hq8
      clear hq8 HB7
      go_wp2_with fail
      refine (works_any _).mono ?_
      rintro e w13 ⟨rfl, hb13⟩
      have HB13 := bNext HB6 hb13
      clear hb13 HB6
      go_wp2_with fail
      go_ret
      exact ⟨rfl, HB13⟩

/-- What the law asks of two shifts besides. -/
structure Zpair (re im re2 im2 : Nat) : Prop where
  z : Zknown re im
  z2 : Zknown re2 im2
  neg : ∀ a b, Zyes re im a b → Zyes (Op.negFloat .f64 re) im a (-b)
  zero : ∀ a b, Zyes re im a b → (FloatKind.f64.format.order re 0 != some Ordering.eq) = !decide (b = 0)
  place : ∀ a b a2 b2, Zyes re im a b → Zyes re2 im2 a2 b2 → (FloatKind.f64.format.order im im2 == some Ordering.eq) = decide (a = a2)

theorem may_set {l : List Int} (h : mayB l = true) (a : Nat) (x : Int) (h0 : 0 ≤ x) (h1 : x < 1048576) : mayB (l.set a x) = true := by
  rw [mayB_all] at h ⊢
  refine ⟨by simpa using h.1, fun j hj => ?_⟩
  rw [List.length_set] at hj
  rw [List.getElem_set]
  split
  · exact ⟨h0, h1⟩
  · exact h.2 j hj

theorem lawBack (v : Value) (l : List Int) (re im re2 im2 : Nat) (w : World) (h : Rd w v l) (hl : l.length ≤ 100) (hz : Zpair re im re2 im2) :
    Calls Try.prog 10 #[v, .complex .f64 re im, .complex .f64 re2 im2] w (Holds1 w) := by
  rcases shIs_cases l re im hz.z with ⟨k, hk, c⟩ | ⟨a, b, zy, hm, ha, hr0, hr1, c⟩
  · exact back_err v l re im re2 im2 k hk w h hl c
  · have zn := hz.neg a b zy
    have hmm := may_set hm a (l[a] + b) hr0 hr1
    have hlen : (l.set a (l[a] + b)).length = l.length := by simp
    have ha' : a < (l.set a (l[a] + b)).length := by omega
    have hget : (l.set a (l[a] + b))[a] = l[a] + b := by simp
    have hla := ((mayB_all l).1 hm).2 a ha
    have hback : (l.set a (l[a] + b)).set a ((l.set a (l[a] + b))[a] + -b) = l := by
      rw [hget, List.set_set, show l[a] + b + -b = l[a] from by omega]
      exact List.set_getElem_self ha
    have c2 : ShIs (l.set a (l[a] + b)) (Op.negFloat .f64 re) im l 0 := by
      have := shIs_ok (l := l.set a (l[a] + b)) (re := Op.negFloat .f64 re) (im := im) fun u w hu => shift_ok u _ _ _ a (-b) w zn hu hmm ha' (by rw [hget]; omega) (by rw [hget]; omega)
      rwa [hback] at this
    have c3 : ∃ yr yi, BetIs l (l.set a (l[a] + b)) yr yi (!decide (b = 0)) ∧ ((!decide (b = 0)) = true → ((FloatKind.f64.format.order yr re == some Ordering.eq) && (FloatKind.f64.format.order yi im == some Ordering.eq)) = true) := by
      by_cases hb : b = 0
      · refine ⟨0, 0, fun u u' w hu hu' => ?_, fun hh => by simp [hb] at hh⟩
        have e : l.set a (l[a] + b) = l := by rw [hb, Int.add_zero]; exact List.set_getElem_self ha
        rw [e] at hu'
        have hno : ¬ ∃ n, DiffAt l (l.set a (l[a] + b)) n := by
          rw [e]; rintro ⟨n, hd⟩; exact hd.ne rfl
        rw [show (!decide (b = 0)) = false from by simp [hb]]
        refine (between_any u u' l l w hu hu' rfl hm hm).mono fun e' w' hp => ?_
        rw [e] at hno
        exact bet_no hno _ _ _ hp
      · refine ⟨floatOfInt .f64 b, floatOfInt .f64 a, fun u u' w hu hu' => ?_, fun _ => ?_⟩
        · have hd : DiffAt l (l.set a (l[a] + b)) a := ⟨by simp, ha, ha', by rw [hget]; omega, fun j h1 h2 hj => by rw [List.getElem_set_ne (by omega)]⟩
          rw [show (!decide (b = 0)) = true from by simp [hb]]
          refine (between_any u u' l _ w hu hu' (by simp) hm hmm).mono fun e' w' hp => ?_
          rcases hp with ⟨hp, _⟩ | ⟨n, hd', rfl, hq⟩
          · exact absurd hd (hp a)
          · obtain rfl : n = a := by rw [← hd.isCom, ← hd'.isCom]
            refine ⟨?_, hq⟩
            have e1 : (l.set n (l[n] + b)).getD n 0 - l.getD n 0 = b := by
              simp only [List.getD_eq_getElem?_getD, List.getElem?_eq_getElem ha', List.getElem?_eq_getElem ha, Option.getD_some, hget]; omega
            rw [e1]
        · have r5 := zy.r5
          have i5 := zy.i5
          unfold eqB at r5 i5
          rw [r5, i5]; rfl
    obtain ⟨yr, yi, c3, hy⟩ := c3
    have hzero := hz.zero a b zy
    rcases shIs_cases (l.set a (l[a] + b)) re2 im2 hz.z2 with ⟨kg, hkg, c4⟩ | ⟨a2, b2, zy2, _, ha2, hr2, hr3, c4⟩
    · rcases shIs_cases l re2 im2 hz.z2 with ⟨kh, hkh, c5⟩ | ⟨a3, b3, zy3, _, ha3, hr4, hr5, c5⟩
      · exact back_core v l _ _ _ re im re2 im2 yr yi _ _ kg kh w h hl (Lib.hid c) (Lib.hid c2) (Lib.hid c3) (Lib.hid c4) (Lib.hid c5) (Lib.hid fun _ e _ => by omega) hzero hy rfl (by omega) (by omega)
      · exact back_core v l _ _ _ re im re2 im2 yr yi _ _ kg 0 w h hl (Lib.hid c) (Lib.hid c2) (Lib.hid c3) (Lib.hid c4) (Lib.hid c5) (Lib.hid fun _ e _ => by omega) hzero hy rfl (by omega) (.inl rfl)
    · rcases shIs_cases l re2 im2 hz.z2 with ⟨kh, hkh, c5⟩ | ⟨a3, b3, zy3, _, ha3, hr4, hr5, c5⟩
      · exact back_core v l _ _ _ re im re2 im2 yr yi _ _ 0 kh w h hl (Lib.hid c) (Lib.hid c2) (Lib.hid c3) (Lib.hid c4) (Lib.hid c5) (Lib.hid fun _ _ e => by omega) hzero hy rfl (.inl rfl) (by omega)
      · have e2 : a3 = a2 := by have h1 := zy2.i4; have h2 := zy3.i4; rw [h1] at h2; injection h2 with h2; omega
        have e3 : b3 = b2 := by have h1 := zy2.r4; have h2 := zy3.r4; rw [h1] at h2; injection h2 with h2; omega
        subst e2 e3
        refine back_core v l _ _ _ re im re2 im2 yr yi _ _ 0 0 w h hl (Lib.hid c) (Lib.hid c2) (Lib.hid c3) (Lib.hid c4) (Lib.hid c5) (Lib.hid fun hq _ _ => ?_) hzero hy rfl (.inl rfl) (.inl rfl)
        have hne : a ≠ a3 := by
          have := hz.place a b a3 b3 zy zy2
          rw [hq] at this
          simpa using this
        have hmd := may_set hm a3 (l[a3] + b3) hr4 hr5
        have had : a < (l.set a3 (l[a3] + b3)).length := by simpa using ha
        have hgd : (l.set a3 (l[a3] + b3))[a] = l[a] := List.getElem_set_ne (by omega) _
        have := shIs_ok (l := l.set a3 (l[a3] + b3)) (re := re) (im := im) fun u w hu => shift_ok u _ _ _ a b w zy hu hmd had (by rw [hgd]; omega) (by rw [hgd]; omega)
        rw [hgd] at this
        rw [show (l.set a (l[a] + b))[a3] = l[a3] from List.getElem_set_ne (by omega) _, List.set_comm _ _ (by omega)]
        exact this
end Go.Proofs.Ytadnijagechkcaa
