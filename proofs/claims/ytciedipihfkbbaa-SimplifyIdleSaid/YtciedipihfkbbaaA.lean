/- Contracts of the small functions on rows of numbers. -/
import Derived.Test.YtciedipihfkbbaaM
namespace Go.Proofs.Ytciedipihfkbbaa
open Go.RowKit

def mayB (l : List Int) : Bool := decide (l.length ≤ 64) && l.all fun n => decide (0 ≤ n ∧ n < 1048576)

theorem mayB_all (l : List Int) : mayB l = true ↔ l.length ≤ 64 ∧ ∀ j (h : j < l.length), 0 ≤ l[j] ∧ l[j] < 1048576 := by
  unfold mayB
  rw [Bool.and_eq_true, decide_eq_true_iff, List.all_eq_true]
  constructor
  · rintro ⟨h1, h2⟩; exact ⟨h1, fun j h => by simpa using h2 _ (List.getElem_mem h)⟩
  · rintro ⟨h1, h2⟩; refine ⟨h1, fun x hx => ?_⟩
    obtain ⟨j, hj, rfl⟩ := List.getElem_of_mem hx
    simpa using h2 j hj

theorem ret_bool {a b : Bool} (h : a = b) : Ending.returned (.bool a) = .returned (.bool b) := by rw [h]
theorem ret_int {k : IntKind} {a b : Int} (h : a = b) : Ending.returned (.int k a) = .returned (.int k b) := by rw [h]

theorem may_no (l : List Int) (k : Nat) (hk : k < l.length) (h : 64 ≤ (k : Int) ∨ l[k] < 0 ∨ 1048576 ≤ l[k]) : mayB l = false := by
  rw [← Bool.not_eq_true, mayB_all]
  rintro ⟨h1, h2⟩
  have := h2 k hk
  omega

set_option maxHeartbeats 400000 in
theorem may_ref (v : Value) (l : List Int) (w : World) (h : Rd w v l) :
    Calls Try.prog 50 #[v] w fun e w' => e = .returned (.bool (mayB l)) ∧ Qt w w' := by
  obtain ⟨a, cap, rfl, hcap, hb, hn, hc⟩ := h
  go_enter Try.func50, Try.ntmps50
  go_wp2
  go_loop [3] (fun i => ∃ k : Nat, k ≤ l.length ∧ i = .int .i64 k ∧ (∀ j (h : j < l.length), j < k → (j : Int) < 64 ∧ 0 ≤ l[j] ∧ l[j] < 1048576)) (fun i => l.length - (intOf i).toNat)
  case atStart => exact ⟨0, Nat.zero_le _, rfl, fun j _ hj => by omega⟩
  case round =>
    obtain ⟨k, hk, rfl, hall⟩ := hrel
    have Hall := Lib.hid hall
    clear hall
    by_cases hlt : k < l.length
    · obtain ⟨b, o, rfl, hcell⟩ := hc k hlt
      by_cases h0 : (k : Int) < 64
      · by_cases h1 : 0 ≤ l[k]
        · by_cases h2 : l[k] < 1048576
          · go_wp2
            go_round
            case rel => exact ⟨k + 1, by omega, by go_num, fun j hj hjk => by
              by_cases e : j = k
              · subst e; exact ⟨h0, h1, h2⟩
              · exact Hall.out j hj (by omega)⟩
            case measure => simp [intOf]; omega
          · go_wp2
            go_ret
            exact ⟨ret_bool (may_no l k hlt (by omega)).symm, Qt.refl _⟩
        · go_wp2
          go_ret
          exact ⟨ret_bool (may_no l k hlt (by omega)).symm, Qt.refl _⟩
      · go_wp2
        go_ret
        exact ⟨ret_bool (may_no l k hlt (by omega)).symm, Qt.refl _⟩
    · go_wp2
      go_ret
      refine ⟨ret_bool ?_, Qt.refl _⟩
      symm
      rw [mayB_all]
      refine ⟨?_, fun j hj => ?_⟩
      · by_cases e : l.length = 0
        · omega
        · have := Hall.out (l.length - 1) (by omega) (by omega); omega
      · exact (Hall.out j hj (by omega)).2

/-- How far two rows go alike. -/
def com : List Int → List Int → Nat
  | a :: x, b :: y => if a = b then com x y + 1 else 0
  | _, _ => 0

theorem com_le (l m : List Int) : com l m ≤ l.length ∧ com l m ≤ m.length := by
  induction l generalizing m with
  | nil => simp [com]
  | cons a x ih =>
    cases m with
    | nil => simp [com]
    | cons b y =>
      simp only [com]
      split
      · have := ih y; simp only [List.length_cons]; omega
      · simp

theorem com_alike (l m : List Int) : ∀ j (h : j < l.length) (h' : j < m.length), j < com l m → l[j] = m[j] := by
  induction l generalizing m with
  | nil => intro j h; simp at h
  | cons a x ih =>
    cases m with
    | nil => intro j _ h'; simp at h'
    | cons b y =>
      intro j h h' hc
      simp only [com] at hc
      split at hc
      · cases j with
        | zero => simpa
        | succ j => simpa using ih y j (by simpa using h) (by simpa using h') (by omega)
      · omega

theorem com_stop (l m : List Int) : ∀ (h : com l m < l.length) (h' : com l m < m.length), l[com l m] ≠ m[com l m] := by
  induction l generalizing m with
  | nil => intro h; simp at h
  | cons a x ih =>
    cases m with
    | nil => intro _ h'; simp at h'
    | cons b y =>
      intro h h'
      by_cases e : a = b
      · have hc : com (a :: x) (b :: y) = com x y + 1 := by simp [com, e]
        simp only [hc] at h h' ⊢
        simpa using ih y (by simpa using h) (by simpa using h')
      · have hc : com (a :: x) (b :: y) = 0 := by simp [com, e]
        simpa [hc] using e

theorem com_is (l m : List Int) (k : Nat) (h1 : k ≤ l.length) (h2 : k ≤ m.length) (h : ∀ j (h : j < l.length) (h' : j < m.length), j < k → l[j] = m[j])
    (hs : ∀ (h : k < l.length) (h' : k < m.length), l[k] ≠ m[k]) : com l m = k := by
  have hl := com_le l m
  rcases Nat.lt_trichotomy (com l m) k with hlt | e | hgt
  · exact absurd (h _ (by omega) (by omega) hlt) (com_stop l m (by omega) (by omega))
  · exact e
  · exact absurd (com_alike l m k (by omega) (by omega) hgt) (hs (by omega) (by omega))

theorem com_lt {l m : List Int} {k : Nat} (h : ∀ j (h : j < l.length) (h' : j < m.length), j < k → l[j] = m[j]) (h1 : k < l.length) (h2 : k < m.length) (e : l[k] = m[k]) :
    ∀ j (h : j < l.length) (h' : j < m.length), j < k + 1 → l[j] = m[j] := fun j hj hj' hk => by
  by_cases ej : j = k
  · subst ej; exact e
  · exact h j hj hj' (by omega)

theorem com_all (l m : List Int) : l = m ↔ l.length = m.length ∧ com l m = l.length := by
  constructor
  · rintro rfl
    exact ⟨rfl, com_is l l _ (Nat.le_refl _) (Nat.le_refl _) (fun _ _ _ _ => rfl) (fun h => by omega)⟩
  · rintro ⟨h, hc⟩
    exact List.ext_getElem h fun j h1 h2 => com_alike l m j h1 h2 (by omega)

set_option maxHeartbeats 400000 in
theorem common_ref (v u : Value) (l m : List Int) (w : World) (h : Rd w v l) (h' : Rd w u m) :
    Calls Try.prog 54 #[v, u] w fun e w' => e = .returned (.int .i64 (com l m)) ∧ Qt w w' := by
  obtain ⟨a, cap, rfl, hcap, hb, hn, hc⟩ := h
  obtain ⟨a', cap', rfl, hcap', hb', hn', hc'⟩ := h'
  go_enter Try.func54, Try.ntmps54
  go_wp2
  go_loopw [5] (fun i w' => ∃ k : Nat, k ≤ l.length ∧ k ≤ m.length ∧ i = .int .i64 k ∧ (∀ j (h : j < l.length) (h' : j < m.length), j < k → l[j] = m[j]) ∧ Qt w w') (fun i _ => l.length - (intOf i).toNat)
  case atStart => exact ⟨0, Nat.zero_le _, Nat.zero_le _, rfl, fun j _ _ hj => by omega, Qt.refl _⟩
  case round =>
    obtain ⟨k, hk, hk', rfl, hall, n0, rfl⟩ := hrel
    have Hall := Lib.hid hall
    clear hall
    by_cases h1 : (k : Int) < l.length
    · by_cases h2 : (k : Int) < m.length
      · obtain ⟨b, o, rfl, hcell⟩ := hc k (by omega)
        obtain ⟨b', o', rfl, hcell'⟩ := hc' k (by omega)
        by_cases h3 : l[k] = m[k]
        · have hd : decide (l[k] = m[k]) = true := by simpa using h3
          have hd' : (l[k] == m[k]) = true := by simpa using h3
          have H3 := Lib.hid h3
          clear h3
          go_wp2
          go_quiet (fail)
          go_wp2
          go_roundw
          case rel => exact ⟨k + 1, by omega, by omega, by go_num, com_lt Hall.out (by omega) (by omega) H3.out, (by first | exact ⟨_, rfl⟩ | exact Qt.drewN ⟨_, rfl⟩ _)⟩
          case measure => simp [intOf]; omega
        · have hd : decide (l[k] = m[k]) = false := by simpa using h3
          have hd' : (l[k] == m[k]) = false := by simpa using h3
          go_wp2
          go_quiet (fail)
          go_wp2
          go_ret
          exact ⟨ret_int (by rw [com_is l m k hk hk' Hall.out (fun _ _ => h3)]), (by first | exact ⟨_, rfl⟩ | exact Qt.drewN ⟨_, rfl⟩ _)⟩
      · have h2' : decide (k < m.length) = false := by simpa using h2
        go_wp2
        go_quiet (fail)
        go_wp2
        go_ret
        exact ⟨ret_int (by rw [com_is l m k hk hk' Hall.out (fun _ _ => by omega)]), (by first | exact ⟨_, rfl⟩ | exact Qt.drewN ⟨_, rfl⟩ _)⟩
    · have h1' : decide (k < l.length) = false := by simpa using h1
      go_wp2
      go_quiet (fail)
      go_wp2
      go_ret
      exact ⟨ret_int (by rw [com_is l m k hk hk' Hall.out (fun _ _ => by omega)]), (by first | exact ⟨_, rfl⟩ | exact Qt.drewN ⟨_, rfl⟩ _)⟩
end Go.Proofs.Ytciedipihfkbbaa
