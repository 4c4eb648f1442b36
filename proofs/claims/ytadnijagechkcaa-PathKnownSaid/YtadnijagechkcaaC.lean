/- Contracts: Compare, May, and what they call. -/
import Derived.Test.YtadnijagechkcaaB
namespace Go.Proofs.Ytadnijagechkcaa
open Go.RowKit

/-- Which of two rows is ahead. -/
def cmpL (l m : List Int) : Int :=
  if com l m = l.length then (if com l m = m.length then 0 else -1)
  else if com l m = m.length then 1
  else if l.getD (com l m) 0 < m.getD (com l m) 0 then -1 else 1

theorem cmp_less (l m : List Int) (k : Nat) (hk : com l m = k) (h1 : k < l.length) (h2 : k < m.length) (h : l[k] < m[k]) : cmpL l m = -1 := by
  subst hk; unfold cmpL; rw [if_neg (by omega), if_neg (by omega), if_pos (by simpa [List.getD, h1, h2] using h)]
theorem cmp_more (l m : List Int) (k : Nat) (hk : com l m = k) (h1 : k < l.length) (h2 : k < m.length) (h : ¬ l[k] < m[k]) : cmpL l m = 1 := by
  subst hk; unfold cmpL; rw [if_neg (by omega), if_neg (by omega), if_neg (by simpa [List.getD, h1, h2] using h)]
theorem cmp_end (l m : List Int) (hk : com l m = m.length) (h1 : m.length < l.length) : cmpL l m = 1 := by
  unfold cmpL; rw [if_neg (by omega), if_pos (by omega)]
theorem cmp_fore (l m : List Int) (hk : com l m = l.length) (h1 : l.length < m.length) : cmpL l m = -1 := by
  unfold cmpL; rw [if_pos (by omega), if_neg (by omega)]
theorem cmp_same (l m : List Int) (hk : com l m = l.length) (h1 : l.length = m.length) : cmpL l m = 0 := by
  unfold cmpL; rw [if_pos (by omega), if_pos (by omega)]

set_option maxHeartbeats 400000 in
theorem compare_ref (v u : Value) (l m : List Int) (w : World) (h : Rd w v l) (h' : Rd w u m) :
    Calls Try.prog 27 #[v, u] w fun e w' => e = .returned (.int .i64 (cmpL l m)) ∧ Qt w w' := by
  have Hv := Lib.hid h
  have Hu := Lib.hid h'
  obtain ⟨a, cap, rfl, hcap, hb, hn, hc⟩ := h
  obtain ⟨a', cap', rfl, hcap', hb', hn', hc'⟩ := h'
  clear hn hn'
  have hle := com_le l m
  have hst := com_stop l m
  generalize hk : com l m = k at *
  have HK := Lib.hid hk
  clear hk
  by_cases h1 : k = l.length
  · have h1a : ((k : Int) == l.length) = true := by simp [h1]
    have h1b : (k == l.length) = true := by simp [h1]
    have H1 := Lib.hid h1
    clear h1 hst hc hc'
    by_cases h2 : k = m.length
    · have h2a : ((k : Int) == m.length) = true := by simp [h2]
      have h2b : (k == m.length) = true := by simp [h2]
      have H2 := Lib.hid h2
      clear h2
      go_enter Try.func27, Try.ntmps27
      go_wp2_with (go_at_call 25; refine (common_ref _ _ _ _ _ Hv.out Hu.out).mono ?_; rintro e w1 ⟨rfl, n1, rfl⟩; rw [HK.out])
      go_ret
      exact ⟨ret_int (cmp_same l m (by rw [HK.out, H1.out]) (by rw [← H1.out, H2.out])).symm, (by first | exact ⟨_, rfl⟩ | exact Qt.drewN ⟨_, rfl⟩ _)⟩
    · have h2a : ((k : Int) == m.length) = false := by simp; omega
      have h2b : (k == m.length) = false := by simp; omega
      go_enter Try.func27, Try.ntmps27
      go_wp2_with (go_at_call 25; refine (common_ref _ _ _ _ _ Hv.out Hu.out).mono ?_; rintro e w1 ⟨rfl, n1, rfl⟩; rw [HK.out])
      go_ret
      exact ⟨ret_int (cmp_fore l m (by rw [HK.out, H1.out]) (by have := H1.out; omega)).symm, (by first | exact ⟨_, rfl⟩ | exact Qt.drewN ⟨_, rfl⟩ _)⟩
  · have h1a : ((k : Int) == l.length) = false := by simp; omega
    have h1b : (k == l.length) = false := by simp; omega
    by_cases h2 : k = m.length
    · have h2a : ((k : Int) == m.length) = true := by simp [h2]
      have h2b : (k == m.length) = true := by simp [h2]
      have H2 := Lib.hid h2
      clear h2 hst hc hc'
      go_enter Try.func27, Try.ntmps27
      go_wp2_with (go_at_call 25; refine (common_ref _ _ _ _ _ Hv.out Hu.out).mono ?_; rintro e w1 ⟨rfl, n1, rfl⟩; rw [HK.out])
      go_ret
      exact ⟨ret_int (cmp_end l m (by rw [HK.out, H2.out]) (by have := H2.out; omega)).symm, (by first | exact ⟨_, rfl⟩ | exact Qt.drewN ⟨_, rfl⟩ _)⟩
    · have h2a : ((k : Int) == m.length) = false := by simp; omega
      have h2b : (k == m.length) = false := by simp; omega
      have h3 : k < l.length := by omega
      have h4 : k < m.length := by omega
      obtain ⟨b, o, rfl, hcell⟩ := hc k (by omega)
      obtain ⟨b', o', rfl, hcell'⟩ := hc' k (by omega)
      clear hst hc hc'
      by_cases h5 : l[k] < m[k]
      · go_enter Try.func27, Try.ntmps27
        go_wp2_with (go_at_call 25; refine (common_ref _ _ _ _ _ Hv.out Hu.out).mono ?_; rintro e w1 ⟨rfl, n1, rfl⟩; rw [HK.out])
        go_quiet (fail)
        go_wp2
        go_ret
        exact ⟨ret_int (cmp_less l m k HK.out h3 h4 h5).symm, (by first | exact ⟨_, rfl⟩ | exact Qt.drewN ⟨_, rfl⟩ _)⟩
      · go_enter Try.func27, Try.ntmps27
        go_wp2_with (go_at_call 25; refine (common_ref _ _ _ _ _ Hv.out Hu.out).mono ?_; rintro e w1 ⟨rfl, n1, rfl⟩; rw [HK.out])
        go_quiet (fail)
        go_wp2
        go_ret
        exact ⟨ret_int (cmp_more l m k HK.out h3 h4 (by omega)).symm, (by first | exact ⟨_, rfl⟩ | exact Qt.drewN ⟨_, rfl⟩ _)⟩

def cmpI (x y : Int) : Int := if x < y then -1 else if y < x then 1 else 0

set_option maxHeartbeats 400000 in
theorem cmpInt_any (x y : Int) (w : World) : Calls Try.prog 42 #[.int .i64 x, .int .i64 y] w fun e w' => e = .returned (.int .i64 (cmpI x y)) ∧ w = w' := by
  by_cases h : x < y
  · have hn : ¬ y < x := by omega
    go_enter Try.func42, Try.ntmps42
    go_wp2
    go_ret
    exact ⟨ret_int (by simp [cmpI, h]), rfl⟩
  · by_cases h' : y < x
    · go_enter Try.func42, Try.ntmps42
      go_wp2
      go_ret
      exact ⟨ret_int (by simp [cmpI, h, h']), rfl⟩
    · go_enter Try.func42, Try.ntmps42
      go_wp2
      go_ret
      exact ⟨ret_int (by unfold cmpI; rw [if_neg (by omega), if_neg (by omega)]), rfl⟩

set_option maxHeartbeats 400000 in
theorem slicesCompare_any (v u : Value) (l m : List Int) (w : World) (h : Rd w v l) (h' : Rd w u m) :
    Calls Try.prog 38 #[v, u] w fun e w' => e = .returned (.int .i64 (cmpL l m)) ∧ w = w' := by
  obtain ⟨a, cap, rfl, hcap, hb, hn, hc⟩ := h
  obtain ⟨a', cap', rfl, hcap', hb', hn', hc'⟩ := h'
  go_enter Try.func38, Try.ntmps38
  go_wp2
  go_loop [11] (fun i => ∃ k : Nat, k ≤ l.length ∧ k ≤ m.length ∧ i = .int .i64 k ∧ (∀ j (h : j < l.length) (h' : j < m.length), j < k → l[j] = m[j])) (fun i => l.length - (intOf i).toNat)
  case atStart => exact ⟨0, Nat.zero_le _, Nat.zero_le _, rfl, fun j _ _ hj => by omega⟩
  case round =>
    obtain ⟨k, hk, hk', rfl, hall⟩ := hrel
    have Hall := Lib.hid hall
    clear hall
    by_cases h1 : k < l.length
    · obtain ⟨b, o, rfl, hcell⟩ := hc k (by omega)
      by_cases h2 : k < m.length
      · obtain ⟨b', o', rfl, hcell'⟩ := hc' k (by omega)
        by_cases h3 : l[k] = m[k]
        · have e : cmpI l[k] m[k] = 0 := by unfold cmpI; rw [if_neg (by omega), if_neg (by omega)]
          have H3 := Lib.hid h3
          clear h3
          go_wp2_with (go_at_call 42; refine (cmpInt_any _ _ _).mono ?_; rintro e w1 ⟨rfl, rfl⟩)
          go_round
          case rel => exact ⟨k + 1, by omega, by omega, by go_num, com_lt Hall.out (by omega) (by omega) H3.out⟩
          case measure => simp [intOf]; omega
        · have HC := Lib.hid (com_is l m k hk hk' Hall.out (fun _ _ => h3))
          by_cases h4 : l[k] < m[k]
          · have e : cmpI l[k] m[k] = -1 := by unfold cmpI; rw [if_pos h4]
            have HE := Lib.hid (cmp_less l m k HC.out h1 h2 h4)
            clear h3
            go_wp2_with (go_at_call 42; refine (cmpInt_any _ _ _).mono ?_; rintro e w1 ⟨rfl, rfl⟩)
            go_ret
            exact ⟨ret_int HE.out.symm, rfl⟩
          · have e : cmpI l[k] m[k] = 1 := by unfold cmpI; rw [if_neg h4, if_pos (by omega)]
            have HE := Lib.hid (cmp_more l m k HC.out h1 h2 h4)
            clear h3
            go_wp2_with (go_at_call 42; refine (cmpInt_any _ _ _).mono ?_; rintro e w1 ⟨rfl, rfl⟩)
            go_ret
            exact ⟨ret_int HE.out.symm, rfl⟩
      · have HC := Lib.hid (com_is l m k hk hk' Hall.out (fun _ _ => by omega))
        go_wp2
        go_ret
        exact ⟨ret_int (cmp_end l m (by rw [HC.out]; omega) (by omega)).symm, rfl⟩
    · have HC := Lib.hid (com_is l m k hk hk' Hall.out (fun _ _ => by omega))
      by_cases h2 : l.length < m.length
      · go_wp2
        go_ret
        exact ⟨ret_int (cmp_fore l m (by rw [HC.out]; omega) (by omega)).symm, rfl⟩
      · go_wp2
        go_ret
        exact ⟨ret_int (cmp_same l m (by rw [HC.out]; omega) (by omega)).symm, rfl⟩

set_option maxHeartbeats 400000 in
theorem compare_any (v u : Value) (l m : List Int) (w : World) (h : Rd w v l) (h' : Rd w u m) :
    Calls Try.prog 26 #[v, u] w fun e w' => e = .returned (.int .i64 (cmpL l m)) ∧ w = w' := by
  go_enter Try.func26, Try.ntmps26
  go_wp2_with (go_at_call 38; refine (slicesCompare_any _ _ _ _ _ h h').mono ?_; rintro e w1 ⟨rfl, rfl⟩)
  go_ret
  exact ⟨rfl, rfl⟩

/-- Is it no number that a path may have? -/
def badN (n : Int) : Bool := decide (n < 0) || decide (1048576 ≤ n)

set_option maxHeartbeats 400000 in
theorem may1_any (n : Int) (w : World) : Calls Try.prog 35 #[.int .i64 n] w fun e w' => e = .returned (.bool (badN n)) ∧ w = w' := by
  by_cases h : n < 0
  · go_enter Try.func35, Try.ntmps35
    go_wp2
    go_ret
    exact ⟨ret_bool (by simp [badN, h]), rfl⟩
  · by_cases h' : n < 1048576
    · go_enter Try.func35, Try.ntmps35
      go_wp2
      go_ret
      exact ⟨ret_bool (by simp [badN]; omega), rfl⟩
    · go_enter Try.func35, Try.ntmps35
      go_wp2
      go_ret
      exact ⟨ret_bool (by simp [badN]; omega), rfl⟩

/-- An index that is no less than 0 just if a row has a number that may not be. -/
def IdxPost (l : List Int) (w : World) (e : Ending) (w' : World) : Prop := ∃ i : Int, e = .returned (.int .i64 i) ∧ decide (0 ≤ i) = l.any badN ∧ w = w'

set_option maxHeartbeats 400000 in
theorem indexFunc_any (v : Value) (l : List Int) (w : World) (h : Rd w v l) :
    Calls Try.prog 41 #[v, .func (.func 35) #[] #[]] w (IdxPost l w) := by
  obtain ⟨a, cap, rfl, hcap, hb, hn, hc⟩ := h
  go_enter Try.func41, Try.ntmps41
  go_wp2
  go_loop [8] (fun i => ∃ k : Nat, k ≤ l.length ∧ i = .int .i64 k ∧ (∀ j (h : j < l.length), j < k → badN l[j] = false)) (fun i => l.length - (intOf i).toNat)
  case atStart => exact ⟨0, Nat.zero_le _, rfl, fun j _ hj => by omega⟩
  case round =>
    obtain ⟨k, hk, rfl, hall⟩ := hrel
    have Hall := Lib.hid hall
    clear hall
    by_cases h1 : k < l.length
    · obtain ⟨b, o, rfl, hcell⟩ := hc k (by omega)
      cases h2 : badN l[k]
      · go_wp2_with (go_at_call 35; refine (may1_any _ _).mono ?_; rintro e w1 ⟨rfl, rfl⟩)
        go_round
        case rel => exact ⟨k + 1, by omega, by go_num, fun j hj hjk => by
          by_cases e : j = k
          · subst e; exact h2
          · exact Hall.out j hj (by omega)⟩
        case measure => simp [intOf]; omega
      · have HA : l.any badN = true := List.any_eq_true.2 ⟨_, List.getElem_mem h1, h2⟩
        have H2 := Lib.hid HA
        clear HA
        go_wp2_with (go_at_call 35; refine (may1_any _ _).mono ?_; rintro e w1 ⟨rfl, rfl⟩)
        go_ret
        exact ⟨_, rfl, by rw [H2.out]; simp, rfl⟩
    · go_wp2
      go_ret
      refine ⟨_, rfl, ?_, rfl⟩
      symm
      rw [show decide ((0 : Int) ≤ -1) = false from rfl, List.any_eq_false]
      intro x hx
      obtain ⟨j, hj, rfl⟩ := List.getElem_of_mem hx
      simp [Hall.out j hj (by omega)]

set_option maxHeartbeats 400000 in
theorem containsFunc_any (v : Value) (l : List Int) (w : World) (h : Rd w v l) :
    Calls Try.prog 34 #[v, .func (.func 35) #[] #[]] w fun e w' => e = .returned (.bool (l.any badN)) ∧ w = w' := by
  go_enter Try.func34, Try.ntmps34
  go_wp2_with (go_at_call 41; refine (indexFunc_any _ _ _ h).mono ?_; rintro e w1 ⟨i, rfl, hi, rfl⟩; have HI := Lib.hid hi; clear hi)
  go_ret
  exact ⟨ret_bool HI.out, rfl⟩

theorem mayB_bad (l : List Int) (h : l.length ≤ 64) : (!l.any badN) = mayB l := by
  unfold mayB
  rw [decide_eq_true h, Bool.true_and, List.not_any_eq_all_not]
  congr 1
  funext n
  rw [Bool.eq_iff_iff]; simp [badN]

set_option maxHeartbeats 400000 in
theorem may_any (v : Value) (l : List Int) (w : World) (h : Rd w v l) :
    Calls Try.prog 13 #[v] w fun e w' => e = .returned (.bool (mayB l)) ∧ w = w' := by
  have Hv := Lib.hid h
  obtain ⟨a, cap, rfl, hcap, hb, hn, hc⟩ := h
  clear hc hn
  by_cases h1 : l.length ≤ 64
  · have h2 : decide ((l.length : Int) ≤ 64) = true := by simp; omega
    have HB := Lib.hid (mayB_bad l h1)
    go_enter Try.func13, Try.ntmps13
    go_wp2_with (go_at_call 34; refine (containsFunc_any _ _ _ Hv.out).mono ?_; rintro e w1 ⟨rfl, rfl⟩)
    go_ret
    exact ⟨ret_bool HB.out, rfl⟩
  · have h2 : decide ((l.length : Int) ≤ 64) = false := by simp; omega
    go_enter Try.func13, Try.ntmps13
    go_wp2_with fail
    go_ret
    exact ⟨ret_bool (by unfold mayB; rw [decide_eq_false h1]; rfl), rfl⟩
end Go.Proofs.Ytadnijagechkcaa
