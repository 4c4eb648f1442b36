/- Contracts of the functions on two rows of numbers. -/
import Derived.Test.YtadnijagechkcaaA
namespace Go.Proofs.Ytadnijagechkcaa
open Go.RowKit

set_option maxHeartbeats 400000 in
theorem common_any (v u : Value) (l m : List Int) (w : World) (h : Rd w v l) (h' : Rd w u m) :
    Calls Try.prog 24 #[v, u] w fun e w' => e = .returned (.int .i64 (com l m)) ∧ Qt w w' := by
  obtain ⟨a, cap, rfl, hcap, hb, hn, hc⟩ := h
  obtain ⟨a', cap', rfl, hcap', hb', hn', hc'⟩ := h'
  go_enter Try.func24, Try.ntmps24
  go_wp2
  go_loopw [5] (fun i w' => ∃ k : Nat, k ≤ l.length ∧ k ≤ m.length ∧ i = .int .i64 k ∧ (∀ j (h : j < l.length) (h' : j < m.length), j < k → l[j] = m[j]) ∧ Qt w w') (fun i _ => l.length - (intOf i).toNat)
  case atStart => exact ⟨0, Nat.zero_le _, Nat.zero_le _, rfl, fun j _ _ hj => by omega, Qt.refl _⟩
  case round =>
    obtain ⟨k, hk, hk', rfl, hall, n0, rfl⟩ := hrel
    have Hall := Lib.hid hall
    clear hall
    by_cases h1 : k < l.length ∧ k < m.length
    · obtain ⟨h1, h2⟩ := h1
      obtain ⟨b, o, rfl, hcell⟩ := hc k (by omega)
      obtain ⟨b', o', rfl, hcell'⟩ := hc' k (by omega)
      have h12 : k < min l.length m.length := by omega
      have h13 : (k : Int) < min (l.length : Int) (m.length : Int) := by omega
      have h14 : decide ((k : Int) < min (l.length : Int) (m.length : Int)) = true := by simpa using h13
      by_cases h3 : l[k] = m[k]
      · have hd : decide (l[k] = m[k]) = true := by simpa using h3
        have hd' : (l[k] == m[k]) = true := by simpa using h3
        have H3 := Lib.hid h3
        clear h3
        go_wp2
        go_quiet (fail)
        go_wp2
        go_roundw
        case rel => exact ⟨k + 1, by omega, by omega, by go_num, com_lt Hall.out (by omega) (by omega) H3.out, (by first | exact ⟨_, rfl⟩ | exact Qt.drewN ⟨_, rfl⟩ _)⟩
        case measure => simp [intOf]; omega
      · have hd : decide (l[k] = m[k]) = false := by simpa using h3
        have hd' : (l[k] == m[k]) = false := by simpa using h3
        go_wp2
        go_quiet (fail)
        go_wp2
        go_ret
        exact ⟨ret_int (by rw [com_is l m k hk hk' Hall.out (fun _ _ => h3)]), (by first | exact ⟨_, rfl⟩ | exact Qt.drewN ⟨_, rfl⟩ _)⟩
    · have h14 : decide ((k : Int) < min (l.length : Int) (m.length : Int)) = false := by rw [decide_eq_false_iff_not]; omega
      go_wp2
      go_quiet (fail)
      go_wp2
      go_ret
      exact ⟨ret_int (by rw [com_is l m k hk hk' Hall.out (fun _ _ => by omega)]), (by first | exact ⟨_, rfl⟩ | exact Qt.drewN ⟨_, rfl⟩ _)⟩

set_option maxHeartbeats 400000 in
theorem equal_any (v u : Value) (l m : List Int) (w : World) (h : Rd w v l) (h' : Rd w u m) :
    Calls Try.prog 37 #[v, u] w fun e w' => e = .returned (.bool (decide (l = m))) ∧ Qt w w' := by
  obtain ⟨a, cap, rfl, hcap, hb, hn, hc⟩ := h
  obtain ⟨a', cap', rfl, hcap', hb', hn', hc'⟩ := h'
  go_enter Try.func37, Try.ntmps37
  by_cases hlen : l.length = m.length
  · have hl0 : ((l.length : Int) != m.length) = false := by rw [hlen]; simp
    have hl1 : (l.length != m.length) = false := by rw [hlen]; simp
    have HL := Lib.hid hlen
    have hle : l.length ≤ m.length := by omega
    clear hlen
    go_wp2
    go_loopw [13] (fun i w' => ∃ k : Nat, k ≤ l.length ∧ i = .int .i64 k ∧ (∀ j (h : j < l.length) (h' : j < m.length), j < k → l[j] = m[j]) ∧ Qt w w') (fun i _ => l.length - (intOf i).toNat)
    case atStart => exact ⟨0, Nat.zero_le _, rfl, fun j _ _ hj => by omega, Qt.refl _⟩
    case round =>
      obtain ⟨k, hk, rfl, hall, n0, rfl⟩ := hrel
      have Hall := Lib.hid hall
      clear hall
      by_cases h1 : k < l.length
      · obtain ⟨b, o, rfl, hcell⟩ := hc k (by omega)
        obtain ⟨b', o', rfl, hcell'⟩ := hc' k (by omega)
        have h2 : k < m.length := by omega
        by_cases h3 : l[k] = m[k]
        · have hd' : (l[k] != m[k]) = false := by simpa using h3
          have H3 := Lib.hid h3
          clear h3
          go_wp2
          go_quiet (fail)
          go_wp2
          go_roundw
          case rel => exact ⟨k + 1, by omega, by go_num, com_lt Hall.out (by omega) (by omega) H3.out, (by first | exact ⟨_, rfl⟩ | exact Qt.drewN ⟨_, rfl⟩ _)⟩
          case measure => simp [intOf]; omega
        · have hd' : (l[k] != m[k]) = true := by simpa using h3
          go_wp2
          go_quiet (fail)
          go_wp2
          go_ret
          exact ⟨ret_bool (by symm; rw [decide_eq_false_iff_not]; rintro rfl; exact h3 rfl), (by first | exact ⟨_, rfl⟩ | exact Qt.drewN ⟨_, rfl⟩ _)⟩
      · go_wp2
        go_ret
        exact ⟨ret_bool (by symm; rw [decide_eq_true_iff]; exact List.ext_getElem HL.out fun j a b => Hall.out j a b (by omega)), (by first | exact ⟨_, rfl⟩ | exact Qt.drewN ⟨_, rfl⟩ _)⟩
  · have hl0 : ((l.length : Int) != m.length) = true := by simpa using (by omega : ¬ (l.length : Int) = m.length)
    have hl1 : (l.length != m.length) = true := by simpa using hlen
    go_wp2
    go_ret
    exact ⟨ret_bool (by symm; rw [decide_eq_false_iff_not]; rintro rfl; exact hlen rfl), Qt.refl _⟩
set_option maxHeartbeats 400000 in
theorem sameInts_any (v u : Value) (l m : List Int) (w : World) (h : Rd w v l) (h' : Rd w u m) :
    Calls Try.prog 18 #[v, u] w fun e w' => e = .returned (.bool (decide (l = m))) ∧ Qt w w' := by
  obtain ⟨a, cap, rfl, hcap, hb, hn, hc⟩ := h
  obtain ⟨a', cap', rfl, hcap', hb', hn', hc'⟩ := h'
  go_enter Try.func18, Try.ntmps18
  by_cases hlen : l.length = m.length
  · have hl0 : ((l.length : Int) != m.length) = false := by rw [hlen]; simp
    have hl1 : (l.length != m.length) = false := by rw [hlen]; simp
    have HL := Lib.hid hlen
    have hle : l.length ≤ m.length := by omega
    clear hlen
    go_wp2
    go_loopw [5] (fun i w' => ∃ k : Nat, k ≤ l.length ∧ i = .int .i64 k ∧ (∀ j (h : j < l.length) (h' : j < m.length), j < k → l[j] = m[j]) ∧ Qt w w') (fun i _ => l.length - (intOf i).toNat)
    case atStart => exact ⟨0, Nat.zero_le _, rfl, fun j _ _ hj => by omega, Qt.refl _⟩
    case round =>
      obtain ⟨k, hk, rfl, hall, n0, rfl⟩ := hrel
      have Hall := Lib.hid hall
      clear hall
      by_cases h1 : k < l.length
      · obtain ⟨b, o, rfl, hcell⟩ := hc k (by omega)
        obtain ⟨b', o', rfl, hcell'⟩ := hc' k (by omega)
        have h2 : k < m.length := by omega
        by_cases h3 : l[k] = m[k]
        · have hd' : (l[k] != m[k]) = false := by simpa using h3
          have H3 := Lib.hid h3
          clear h3
          go_wp2
          go_quiet (fail)
          go_wp2
          go_roundw
          case rel => exact ⟨k + 1, by omega, by go_num, com_lt Hall.out (by omega) (by omega) H3.out, (by first | exact ⟨_, rfl⟩ | exact Qt.drewN ⟨_, rfl⟩ _)⟩
          case measure => simp [intOf]; omega
        · have hd' : (l[k] != m[k]) = true := by simpa using h3
          go_wp2
          go_quiet (fail)
          go_wp2
          go_ret
          exact ⟨ret_bool (by symm; rw [decide_eq_false_iff_not]; rintro rfl; exact h3 rfl), (by first | exact ⟨_, rfl⟩ | exact Qt.drewN ⟨_, rfl⟩ _)⟩
      · go_wp2
        go_ret
        exact ⟨ret_bool (by symm; rw [decide_eq_true_iff]; exact List.ext_getElem HL.out fun j a b => Hall.out j a b (by omega)), (by first | exact ⟨_, rfl⟩ | exact Qt.drewN ⟨_, rfl⟩ _)⟩
  · have hl0 : ((l.length : Int) != m.length) = true := by simpa using (by omega : ¬ (l.length : Int) = m.length)
    have hl1 : (l.length != m.length) = true := by simpa using hlen
    go_wp2
    go_ret
    exact ⟨ret_bool (by symm; rw [decide_eq_false_iff_not]; rintro rfl; exact hlen rfl), Qt.refl _⟩

theorem com_eq_dec (l m : List Int) : decide (l = m) = (decide (l.length = m.length) && decide (com l m = l.length)) := by
  rw [Bool.eq_iff_iff, Bool.and_eq_true, decide_eq_true_iff, decide_eq_true_iff, decide_eq_true_iff]; exact com_all l m

set_option maxHeartbeats 400000 in
theorem same_any (v u : Value) (l m : List Int) (w : World) (h : Rd w v l) (h' : Rd w u m) :
    Calls Try.prog 20 #[v, u] w fun e w' => e = .returned (.bool (decide (l = m))) ∧ Qt w w' := by
  go_enter Try.func20, Try.ntmps20
  go_wp2_with (go_at_call 37; refine (equal_any _ _ _ _ _ h h').mono ?_; rintro e w1 ⟨rfl, n1, rfl⟩)
  go_ret
  exact ⟨rfl, (by first | exact ⟨_, rfl⟩ | exact Qt.drewN ⟨_, rfl⟩ _)⟩

set_option maxHeartbeats 400000 in
theorem same_ref (v u : Value) (l m : List Int) (w : World) (h : Rd w v l) (h' : Rd w u m) :
    Calls Try.prog 21 #[v, u] w fun e w' => e = .returned (.bool (decide (l = m))) ∧ Qt w w' := by
  have Hv := Lib.hid h
  have Hu := Lib.hid h'
  obtain ⟨a, cap, rfl, hcap, hb, hn, hc⟩ := h
  obtain ⟨a', cap', rfl, hcap', hb', hn', hc'⟩ := h'
  clear hc hc' hn hn'
  have HE := Lib.hid (com_eq_dec l m)
  have hle := com_le l m
  by_cases hlen : l.length = m.length
  · have hl0 : ((l.length : Int) == m.length) = true := by rw [hlen]; simp
    have hl1 : (l.length == m.length) = true := by rw [hlen]; simp
    have HL := Lib.hid hlen
    clear hlen
    go_enter Try.func21, Try.ntmps21
    go_wp2_with (go_at_call 25; refine (common_ref _ _ _ _ _ Hv.out Hu.out).mono ?_; rintro e w1 ⟨rfl, n1, rfl⟩)
    go_ret
    have := HL.out
    exact ⟨ret_bool (by rw [HE.out, Bool.eq_iff_iff]; simp; omega), (by first | exact ⟨_, rfl⟩ | exact Qt.drewN ⟨_, rfl⟩ _)⟩
  · have hl0 : ((l.length : Int) == m.length) = false := by simpa using (by omega : ¬ (l.length : Int) = m.length)
    have hl1 : (l.length == m.length) = false := by simpa using hlen
    go_enter Try.func21, Try.ntmps21
    go_wp2_with fail
    go_ret
    exact ⟨ret_bool (by rw [HE.out]; simp [hlen]), Qt.refl _⟩

set_option maxHeartbeats 400000 in
theorem within_ref (v u : Value) (l m : List Int) (w : World) (h : Rd w v l) (h' : Rd w u m) :
    Calls Try.prog 23 #[v, u] w fun e w' => e = .returned (.bool (decide (com l m = l.length))) ∧ Qt w w' := by
  have Hv := Lib.hid h
  have Hu := Lib.hid h'
  obtain ⟨a, cap, rfl, hcap, hb, hn, hc⟩ := h
  obtain ⟨a', cap', rfl, hcap', hb', hn', hc'⟩ := h'
  clear hc hc' hn hn'
  go_enter Try.func23, Try.ntmps23
  go_wp2_with (go_at_call 25; refine (common_ref _ _ _ _ _ Hv.out Hu.out).mono ?_; rintro e w1 ⟨rfl, n1, rfl⟩)
  go_ret
  exact ⟨ret_bool (by rw [Bool.eq_iff_iff]; simp; omega), (by first | exact ⟨_, rfl⟩ | exact Qt.drewN ⟨_, rfl⟩ _)⟩

theorem com_take (l m : List Int) (h : l.length ≤ m.length) : decide (l = m.take l.length) = decide (com l m = l.length) := by
  rw [decide_eq_decide]
  constructor
  · intro e
    refine com_is l m _ (Nat.le_refl _) h (fun j h1 h2 _ => ?_) (fun h => by omega)
    have : l[j]? = (m.take l.length)[j]? := by rw [← e]
    rw [List.getElem?_take_of_lt h1, List.getElem?_eq_getElem h1, List.getElem?_eq_getElem h2] at this
    exact Option.some.inj this
  · intro e
    refine List.ext_getElem (by simp; omega) fun j h1 h2 => ?_
    rw [List.getElem_take]
    exact com_alike l m j h1 (by omega) (by omega)

set_option maxHeartbeats 400000 in
theorem within_any (v u : Value) (l m : List Int) (w : World) (h : Rd w v l) (h' : Rd w u m) :
    Calls Try.prog 22 #[v, u] w fun e w' => e = .returned (.bool (decide (com l m = l.length))) ∧ Qt w w' := by
  have Hv := Lib.hid h
  have Hu := Lib.hid h'
  obtain ⟨a, cap, rfl, hcap, hb, hn, hc⟩ := h
  obtain ⟨a', cap', rfl, hcap', hb', hn', hc'⟩ := h'
  clear hc hc'
  by_cases hlen : l.length ≤ m.length
  · have hl0 : decide ((l.length : Int) ≤ m.length) = true := by simp; omega
    have hl1 : decide (l.length ≤ m.length) = true := by simp; omega
    have hl2 : l.length ≤ cap' := by omega
    have HT := Hu.out.take hlen
    have HE := Lib.hid (com_take l m hlen)
    cases a' with
    | none =>
      have hm : cap' = 0 := hn' rfl
      obtain rfl : l = [] := List.eq_nil_of_length_eq_zero (by omega)
      obtain rfl : m = [] := List.eq_nil_of_length_eq_zero (by omega)
      subst hm
      go_enter Try.func22, Try.ntmps22
      go_wp2_with (go_at_call 37; refine (equal_any _ _ _ _ _ Hv.out HT).mono ?_; rintro e w1 ⟨rfl, n1, rfl⟩)
      go_ret
      exact ⟨rfl, (by first | exact ⟨_, rfl⟩ | exact Qt.drewN ⟨_, rfl⟩ _)⟩
    | some ad =>
      go_enter Try.func22, Try.ntmps22
      go_wp2_with (go_at_call 37; refine (equal_any _ _ _ _ _ Hv.out HT).mono ?_; rintro e w1 ⟨rfl, n1, rfl⟩)
      go_ret
      exact ⟨ret_bool HE.out, (by first | exact ⟨_, rfl⟩ | exact Qt.drewN ⟨_, rfl⟩ _)⟩
  · have hl0 : decide ((l.length : Int) ≤ m.length) = false := by simp; omega
    have hl1 : decide (l.length ≤ m.length) = false := by simp; omega
    have HE : com l m ≤ m.length := (com_le l m).2
    go_enter Try.func22, Try.ntmps22
    go_wp2_with fail
    go_ret
    exact ⟨ret_bool (by symm; rw [decide_eq_false_iff_not]; omega), Qt.refl _⟩
end Go.Proofs.Ytadnijagechkcaa
