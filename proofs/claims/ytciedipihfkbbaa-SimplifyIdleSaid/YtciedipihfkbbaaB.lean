/- Contracts of the functions on two rows of numbers. -/
import Derived.Test.YtciedipihfkbbaaA
namespace Go.Proofs.Ytciedipihfkbbaa
open Go.RowKit

set_option maxHeartbeats 400000 in
theorem equal_any (v u : Value) (l m : List Int) (w : World) (h : Rd w v l) (h' : Rd w u m) :
    Calls Try.prog 49 #[v, u] w fun e w' => e = .returned (.bool (decide (l = m))) ∧ Qt w w' := by
  obtain ⟨a, cap, rfl, hcap, hb, hn, hc⟩ := h
  obtain ⟨a', cap', rfl, hcap', hb', hn', hc'⟩ := h'
  go_enter Try.func49, Try.ntmps49
  by_cases hlen : l.length = m.length
  · have hl0 : ((l.length : Int) != m.length) = false := by rw [hlen]; simp
    have hl1 : (l.length != m.length) = false := by rw [hlen]; simp
    have HL := Lib.hid hlen
    have hle : l.length ≤ m.length := by omega
    clear hlen
    go_wp2
    go_loopw [13] (fun i w' => ∃ k : Nat, k ≤ l.length ∧ i = .int .i64 k ∧ (∀ j (h : j < l.length) (h' : j < m.length), j < k → l[j] = m[j]) ∧ Qt w w') (fun i _ => l.length - (intOf i).toNat)
    case atStart => exact ⟨0, Nat.zero_le _, rfl, fun j _ _ hj => by omega, Qt.refl _⟩
    case round =>
      obtain ⟨k, hk, rfl, hall, n0, rfl⟩ := hrel
      have Hall := Lib.hid hall
      clear hall
      by_cases h1 : k < l.length
      · obtain ⟨b, o, rfl, hcell⟩ := hc k (by omega)
        obtain ⟨b', o', rfl, hcell'⟩ := hc' k (by omega)
        have h2 : k < m.length := by omega
        by_cases h3 : l[k] = m[k]
        · have hd' : (l[k] != m[k]) = false := by simpa using h3
          have H3 := Lib.hid h3
          clear h3
          go_wp2
          go_quiet (fail)
          go_wp2
          go_roundw
          case rel => exact ⟨k + 1, by omega, by go_num, com_lt Hall.out (by omega) (by omega) H3.out, (by first | exact ⟨_, rfl⟩ | exact Qt.drewN ⟨_, rfl⟩ _)⟩
          case measure => simp [intOf]; omega
        · have hd' : (l[k] != m[k]) = true := by simpa using h3
          go_wp2
          go_quiet (fail)
          go_wp2
          go_ret
          exact ⟨ret_bool (by symm; rw [decide_eq_false_iff_not]; rintro rfl; exact h3 rfl), (by first | exact ⟨_, rfl⟩ | exact Qt.drewN ⟨_, rfl⟩ _)⟩
      · go_wp2
        go_ret
        exact ⟨ret_bool (by symm; rw [decide_eq_true_iff]; exact List.ext_getElem HL.out fun j a b => Hall.out j a b (by omega)), (by first | exact ⟨_, rfl⟩ | exact Qt.drewN ⟨_, rfl⟩ _)⟩
  · have hl0 : ((l.length : Int) != m.length) = true := by simpa using (by omega : ¬ (l.length : Int) = m.length)
    have hl1 : (l.length != m.length) = true := by simpa using hlen
    go_wp2
    go_ret
    exact ⟨ret_bool (by symm; rw [decide_eq_false_iff_not]; rintro rfl; exact hlen rfl), Qt.refl _⟩

theorem com_eq_dec (l m : List Int) : decide (l = m) = (decide (l.length = m.length) && decide (com l m = l.length)) := by
  rw [Bool.eq_iff_iff, Bool.and_eq_true, decide_eq_true_iff, decide_eq_true_iff, decide_eq_true_iff]; exact com_all l m

set_option maxHeartbeats 400000 in
theorem same_any (v u : Value) (l m : List Int) (w : World) (h : Rd w v l) (h' : Rd w u m) :
    Calls Try.prog 29 #[v, u] w fun e w' => e = .returned (.bool (decide (l = m))) ∧ Qt w w' := by
  go_enter Try.func29, Try.ntmps29
  go_wp2_with (go_at_call 49; refine (equal_any _ _ _ _ _ h h').mono ?_; rintro e w1 ⟨rfl, n1, rfl⟩)
  go_ret
  exact ⟨rfl, (by first | exact ⟨_, rfl⟩ | exact Qt.drewN ⟨_, rfl⟩ _)⟩

set_option maxHeartbeats 400000 in
theorem same_ref (v u : Value) (l m : List Int) (w : World) (h : Rd w v l) (h' : Rd w u m) :
    Calls Try.prog 32 #[v, u] w fun e w' => e = .returned (.bool (decide (l = m))) ∧ Qt w w' := by
  have Hv := Lib.hid h
  have Hu := Lib.hid h'
  obtain ⟨a, cap, rfl, hcap, hb, hn, hc⟩ := h
  obtain ⟨a', cap', rfl, hcap', hb', hn', hc'⟩ := h'
  clear hc hc' hn hn'
  have HE := Lib.hid (com_eq_dec l m)
  have hle := com_le l m
  by_cases hlen : l.length = m.length
  · have hl0 : ((l.length : Int) == m.length) = true := by rw [hlen]; simp
    have hl1 : (l.length == m.length) = true := by rw [hlen]; simp
    have HL := Lib.hid hlen
    clear hlen
    go_enter Try.func32, Try.ntmps32
    go_wp2_with (go_at_call 54; refine (common_ref _ _ _ _ _ Hv.out Hu.out).mono ?_; rintro e w1 ⟨rfl, n1, rfl⟩)
    go_ret
    have := HL.out
    exact ⟨ret_bool (by rw [HE.out, Bool.eq_iff_iff]; simp; omega), (by first | exact ⟨_, rfl⟩ | exact Qt.drewN ⟨_, rfl⟩ _)⟩
  · have hl0 : ((l.length : Int) == m.length) = false := by simpa using (by omega : ¬ (l.length : Int) = m.length)
    have hl1 : (l.length == m.length) = false := by simpa using hlen
    go_enter Try.func32, Try.ntmps32
    go_wp2_with fail
    go_ret
    exact ⟨ret_bool (by rw [HE.out]; simp [hlen]), Qt.refl _⟩

set_option maxHeartbeats 400000 in
theorem within_ref (v u : Value) (l m : List Int) (w : World) (h : Rd w v l) (h' : Rd w u m) :
    Calls Try.prog 82 #[v, u] w fun e w' => e = .returned (.bool (decide (com l m = l.length))) ∧ Qt w w' := by
  have Hv := Lib.hid h
  have Hu := Lib.hid h'
  obtain ⟨a, cap, rfl, hcap, hb, hn, hc⟩ := h
  obtain ⟨a', cap', rfl, hcap', hb', hn', hc'⟩ := h'
  clear hc hc' hn hn'
  go_enter Try.func82, Try.ntmps82
  go_wp2_with (go_at_call 54; refine (common_ref _ _ _ _ _ Hv.out Hu.out).mono ?_; rintro e w1 ⟨rfl, n1, rfl⟩)
  go_ret
  exact ⟨ret_bool (by rw [Bool.eq_iff_iff]; simp; omega), (by first | exact ⟨_, rfl⟩ | exact Qt.drewN ⟨_, rfl⟩ _)⟩
end Go.Proofs.Ytciedipihfkbbaa
