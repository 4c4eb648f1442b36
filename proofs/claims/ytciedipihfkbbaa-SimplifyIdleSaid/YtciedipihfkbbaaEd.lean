/- Which edits are right: the document's answer; keys; what is light. -/
import Derived.Test.YtciedipihfkbbaaEc
import Derived.Deep.RegionHeld3
namespace Go.Proofs.Ytciedipihfkbbaa
open Go.RowKit

set_option maxHeartbeats 3200000 in
set_option maxRecDepth 100000 in
theorem right_ref (v : Value) (l : List Pc) (w : World) (h : RdP w v l) :
    Calls Try.prog 52 #[v] w fun e w' => e = .returned (.bool (rightB l)) ∧ Qt w w' := by
  obtain ⟨a, cap, rfl, hcap, hb, hn, hc⟩ := h
  by_cases hlt : l.length ≤ 4096
  · go_enter Try.func52, Try.ntmps52
    go_wp2_with fail
    go_loopw [3, 4] (fun n i w' => ∃ (k : Nat) (q : Int), k ≤ l.length ∧ i = .int .i64 k ∧ n = .int .i64 q ∧ 0 ≤ q ∧ q ≤ 1048576 ∧ rightGo 0 l = rightGo q (l.drop k) ∧ Qt w w') (fun _ i _ => l.length - (intOf i).toNat)
    case atStart => exact ⟨0, 0, Nat.zero_le _, rfl, rfl, by omega, by omega, by rw [List.drop_zero], Qt.refl _⟩
    case round =>
      obtain ⟨k, r, hk, rfl, rfl, hq0, hq1, hgo, n0, rfl⟩ := hrel
      have HG := Lib.hid hgo
      clear hgo
      by_cases h1 : k < l.length
      · obtain ⟨b, o, rfl, hc1, hc2, hc3, hb1, hb2, hb3, hb4, hb5⟩ := hc k h1
        have HY := Lib.hid (@rightGo_yes r l k h1)
        have HN := Lib.hid (@rightGo_no r l k h1)
        clear hc
        generalize l[k] = p at *
        obtain ⟨pk, pd, pp⟩ := p
        simp only at hc1 hc2 hc3 hb1 hb2 hb3 hb4 hb5
        by_cases f1 : okPc r ⟨pk, pd, pp⟩
        · obtain ⟨f2, f3, f4, f5, f6⟩ := id f1
          simp only at f2 f3 f4 f5 f6
          go_wp2_with fail
          go_roundw
          case rel => exact ⟨k + 1, r + pp.size, by omega, by go_num, by go_num, by omega, by omega, by rw [HG.out, HY.out f1], ⟨_, rfl⟩⟩
          case measure => simp [intOf]; omega
        · have f2 : pk < 0 ∨ ¬ (pk < 0) ∧ (1048576 < pk ∨ ¬ (1048576 < pk) ∧ (pd < 0 ∨ ¬ (pd < 0) ∧ (1048576 < pd ∨ ¬ (1048576 < pd) ∧ 1048576 - r < (pp.size : Int)))) := by
            unfold okPc at f1; simp only at f1; omega
          have F1 := Lib.hid f1
          clear f1
          rcases f2 with f2 | ⟨f2, f3 | ⟨f3, f4 | ⟨f4, f5 | ⟨f5, f6⟩⟩⟩⟩
          all_goals
            go_wp2_with fail
            go_ret
            exact ⟨ret_bool (by rw [rightB, HG.out, HN.out F1.out, Bool.and_false]), ⟨_, rfl⟩⟩
      · go_wp2_with fail
        go_ret
        exact ⟨ret_bool (by rw [rightB, decide_eq_true hlt, HG.out, List.drop_of_length_le (by omega)]; rfl), ⟨_, rfl⟩⟩
  · go_enter Try.func52, Try.ntmps52
    go_wp2_with fail
    go_ret
    exact ⟨ret_bool (by rw [rightB, decide_eq_false (by omega)]; rfl), Qt.refl _⟩

def keyB (s : ByteArray) : Bool := decide (1 ≤ s.size ∧ s.size ≤ 64)
theorem toList_emp (s : ByteArray) : s.toList.isEmpty = decide (s.size = 0) := by
  rw [ByteArray.toList_eq]; rcases s with ⟨⟨l⟩⟩; cases l <;> rfl
theorem key_any (s : ByteArray) (w : World) : Calls Try.prog 45 #[.string s] w fun e w' => e = .returned (.bool (keyB s)) ∧ w = w' := by
  by_cases h0 : s.toList.isEmpty = true
  · have h1 : s.size = 0 := by rw [toList_emp, decide_eq_true_eq] at h0; exact h0
    go_enter Try.func45, Try.ntmps45
    go_wp2_with fail
    all_goals (go_ret; exact ⟨ret_bool (by rw [keyB, Bool.eq_iff_iff]; simp only [decide_eq_true_eq, Bool.false_eq_true, false_iff, Bool.and_eq_true]; omega), rfl⟩)
  · have h1 : ¬ s.size = 0 := by rw [toList_emp, decide_eq_true_eq] at h0; exact h0
    go_enter Try.func45, Try.ntmps45
    go_wp2_with fail
    all_goals (go_ret; exact ⟨ret_bool (by rw [keyB, Bool.eq_iff_iff]; simp only [decide_eq_true_eq, Bool.false_eq_true, false_iff, Bool.and_eq_true]; omega), rfl⟩)
theorem key_ref (s : ByteArray) (w : World) : Calls Try.prog 51 #[.string s] w fun e w' => e = .returned (.bool (keyB s)) ∧ w = w' := by
  go_enter Try.func51, Try.ntmps51
  go_wp2_with fail
  all_goals (go_ret; exact ⟨ret_bool (by rw [keyB, Bool.eq_iff_iff]; simp only [decide_eq_true_eq, Bool.false_eq_true, false_iff, Bool.and_eq_true]; omega), rfl⟩)
end Go.Proofs.Ytciedipihfkbbaa
