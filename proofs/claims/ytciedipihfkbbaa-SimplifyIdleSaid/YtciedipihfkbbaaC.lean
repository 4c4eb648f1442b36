/- Contracts: May, and what they call. -/
import Derived.Test.YtciedipihfkbbaaB
namespace Go.Proofs.Ytciedipihfkbbaa
open Go.RowKit

/-- Is it no number that a path may have? -/
def badN (n : Int) : Bool := decide (n < 0) || decide (1048576 ≤ n)

set_option maxHeartbeats 400000 in
theorem may1_any (n : Int) (w : World) : Calls Try.prog 78 #[.int .i64 n] w fun e w' => e = .returned (.bool (badN n)) ∧ w = w' := by
  by_cases h : n < 0
  · go_enter Try.func78, Try.ntmps78
    go_wp2
    go_ret
    exact ⟨ret_bool (by simp [badN, h]), rfl⟩
  · by_cases h' : n < 1048576
    · go_enter Try.func78, Try.ntmps78
      go_wp2
      go_ret
      exact ⟨ret_bool (by simp [badN]; omega), rfl⟩
    · go_enter Try.func78, Try.ntmps78
      go_wp2
      go_ret
      exact ⟨ret_bool (by simp [badN]; omega), rfl⟩

/-- An index that is no less than 0 just if a row has a number that may not be. -/
def IdxPost (l : List Int) (w : World) (e : Ending) (w' : World) : Prop := ∃ i : Int, e = .returned (.int .i64 i) ∧ decide (0 ≤ i) = l.any badN ∧ w = w'

set_option maxHeartbeats 400000 in
theorem indexFunc_any (v : Value) (l : List Int) (w : World) (h : Rd w v l) :
    Calls Try.prog 85 #[v, .func (.func 78) #[] #[]] w (IdxPost l w) := by
  obtain ⟨a, cap, rfl, hcap, hb, hn, hc⟩ := h
  go_enter Try.func85, Try.ntmps85
  go_wp2
  go_loop [8] (fun i => ∃ k : Nat, k ≤ l.length ∧ i = .int .i64 k ∧ (∀ j (h : j < l.length), j < k → badN l[j] = false)) (fun i => l.length - (intOf i).toNat)
  case atStart => exact ⟨0, Nat.zero_le _, rfl, fun j _ hj => by omega⟩
  case round =>
    obtain ⟨k, hk, rfl, hall⟩ := hrel
    have Hall := Lib.hid hall
    clear hall
    by_cases h1 : k < l.length
    · obtain ⟨b, o, rfl, hcell⟩ := hc k (by omega)
      cases h2 : badN l[k]
      · go_wp2_with (go_at_call 78; refine (may1_any _ _).mono ?_; rintro e w1 ⟨rfl, rfl⟩)
        go_round
        case rel => exact ⟨k + 1, by omega, by go_num, fun j hj hjk => by
          by_cases e : j = k
          · subst e; exact h2
          · exact Hall.out j hj (by omega)⟩
        case measure => simp [intOf]; omega
      · have HA : l.any badN = true := List.any_eq_true.2 ⟨_, List.getElem_mem h1, h2⟩
        have H2 := Lib.hid HA
        clear HA
        go_wp2_with (go_at_call 78; refine (may1_any _ _).mono ?_; rintro e w1 ⟨rfl, rfl⟩)
        go_ret
        exact ⟨_, rfl, by rw [H2.out]; simp, rfl⟩
    · go_wp2
      go_ret
      refine ⟨_, rfl, ?_, rfl⟩
      symm
      rw [show decide ((0 : Int) ≤ -1) = false from rfl, List.any_eq_false]
      intro x hx
      obtain ⟨j, hj, rfl⟩ := List.getElem_of_mem hx
      simp [Hall.out j hj (by omega)]

set_option maxHeartbeats 400000 in
theorem containsFunc_any (v : Value) (l : List Int) (w : World) (h : Rd w v l) :
    Calls Try.prog 77 #[v, .func (.func 78) #[] #[]] w fun e w' => e = .returned (.bool (l.any badN)) ∧ w = w' := by
  go_enter Try.func77, Try.ntmps77
  go_wp2_with (go_at_call 85; refine (indexFunc_any _ _ _ h).mono ?_; rintro e w1 ⟨i, rfl, hi, rfl⟩; have HI := Lib.hid hi; clear hi)
  go_ret
  exact ⟨ret_bool HI.out, rfl⟩

theorem mayB_bad (l : List Int) (h : l.length ≤ 64) : (!l.any badN) = mayB l := by
  unfold mayB
  rw [decide_eq_true h, Bool.true_and, List.not_any_eq_all_not]
  congr 1
  funext n
  rw [Bool.eq_iff_iff]; simp [badN]

set_option maxHeartbeats 400000 in
theorem may_any (v : Value) (l : List Int) (w : World) (h : Rd w v l) :
    Calls Try.prog 44 #[v] w fun e w' => e = .returned (.bool (mayB l)) ∧ w = w' := by
  have Hv := Lib.hid h
  obtain ⟨a, cap, rfl, hcap, hb, hn, hc⟩ := h
  clear hc hn
  by_cases h1 : l.length ≤ 64
  · have h2 : decide ((l.length : Int) ≤ 64) = true := by simp; omega
    have HB := Lib.hid (mayB_bad l h1)
    go_enter Try.func44, Try.ntmps44
    go_wp2_with (go_at_call 77; refine (containsFunc_any _ _ _ Hv.out).mono ?_; rintro e w1 ⟨rfl, rfl⟩)
    go_ret
    exact ⟨ret_bool HB.out, rfl⟩
  · have h2 : decide ((l.length : Int) ≤ 64) = false := by simp; omega
    go_enter Try.func44, Try.ntmps44
    go_wp2_with fail
    go_ret
    exact ⟨ret_bool (by unfold mayB; rw [decide_eq_false h1]; rfl), rfl⟩
end Go.Proofs.Ytciedipihfkbbaa
