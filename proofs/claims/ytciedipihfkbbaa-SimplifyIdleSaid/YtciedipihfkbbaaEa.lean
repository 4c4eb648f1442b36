/- Pieces of edits in memory; what is light. -/
import Derived.Test.YtciedipihfkbbaaA
namespace Go.Proofs.Ytciedipihfkbbaa
open Go.RowKit

/-- A piece of an edit. -/
structure Pc where
  keep : Int
  drop : Int
  put : ByteArray

/-- The slice value reads as the row of pieces. -/
def RdP (w : World) (v : Value) (l : List Pc) : Prop :=
  ∃ a cap, v = .slice a l.length cap ∧ l.length ≤ cap ∧ cap ≤ 9223372036854775807 ∧ (a = none → cap = 0) ∧ ∀ j (h : j < l.length), ∃ b o, a = some ⟨b, o, none⟩ ∧
    w.cell? ⟨b, o + j * 3, none⟩ = some (.int .i64 l[j].keep) ∧ w.cell? ⟨b, o + j * 3 + 1, none⟩ = some (.int .i64 l[j].drop) ∧ w.cell? ⟨b, o + j * 3 + 2, none⟩ = some (.string l[j].put) ∧
    -9223372036854775808 ≤ l[j].keep ∧ l[j].keep ≤ 9223372036854775807 ∧ -9223372036854775808 ≤ l[j].drop ∧ l[j].drop ≤ 9223372036854775807 ∧ l[j].put.size ≤ 9223372036854775807

/-- Does so much hold the pieces? -/
def smallGo (r : Int) : List Pc → Bool
  | [] => true
  | p :: t => decide (max p.keep 0 ≤ r) && decide (max p.drop 0 ≤ r - max p.keep 0) && decide ((p.put.size : Int) ≤ r - max p.keep 0 - max p.drop 0) && smallGo (r - max p.keep 0 - max p.drop 0 - p.put.size) t
def smallB (l : List Pc) (top : Int) : Bool := decide ((l.length : Int) ≤ top) && smallGo top l

theorem drop_cons {α : Type} (l : List α) (k : Nat) (h : k < l.length) : l.drop k = l[k] :: l.drop (k + 1) := List.drop_eq_getElem_cons h
theorem smallGo_yes {r : Int} {l : List Pc} {k : Nat} (h : k < l.length) (h1 : max l[k].keep 0 ≤ r) (h2 : max l[k].drop 0 ≤ r - max l[k].keep 0) (h3 : (l[k].put.size : Int) ≤ r - max l[k].keep 0 - max l[k].drop 0) :
    smallGo r (l.drop k) = smallGo (r - max l[k].keep 0 - max l[k].drop 0 - l[k].put.size) (l.drop (k + 1)) := by
  rw [drop_cons l k h, smallGo, decide_eq_true h1, decide_eq_true h2, decide_eq_true h3]; simp
theorem smallGo_no {r : Int} {l : List Pc} {k : Nat} (h : k < l.length) (hn : ¬ (max l[k].keep 0 ≤ r ∧ max l[k].drop 0 ≤ r - max l[k].keep 0 ∧ (l[k].put.size : Int) ≤ r - max l[k].keep 0 - max l[k].drop 0)) : smallGo r (l.drop k) = false := by
  rw [drop_cons l k h, smallGo, ← Bool.not_eq_true]
  simp only [Bool.and_eq_true, decide_eq_true_eq]
  rintro ⟨⟨⟨h1, h2⟩, h3⟩, _⟩
  exact hn ⟨h1, h2, h3⟩

set_option maxHeartbeats 3200000 in
theorem small_any (v : Value) (l : List Pc) (top : Int) (w : World) (h : RdP w v l) (ht : 0 ≤ top) (ht' : top ≤ 1000) :
    Calls Try.prog 25 #[v, .int .i64 top] w fun e w' => e = .returned (.bool (smallB l top)) ∧ Qt w w' := by
  obtain ⟨a, cap, rfl, hcap, hb, hn, hc⟩ := h
  by_cases hlt : (l.length : Int) ≤ top
  · go_enter Try.func25, Try.ntmps25
    go_wp2
    go_loopw [5, 6] (fun n i w' => ∃ (k : Nat) (q : Int), k ≤ l.length ∧ i = .int .i64 k ∧ n = .int .i64 q ∧ 0 ≤ q ∧ q ≤ top ∧ smallGo top l = smallGo (top - q) (l.drop k) ∧ Qt w w') (fun _ i _ => l.length - (intOf i).toNat)
    case atStart => exact ⟨0, 0, Nat.zero_le _, rfl, rfl, by omega, by omega, by rw [Int.sub_zero, List.drop_zero], Qt.refl _⟩
    case round =>
      obtain ⟨k, q, hk, rfl, rfl, hq0, hq1, hgo, n0, rfl⟩ := hrel
      have HG := Lib.hid hgo
      clear hgo
      by_cases h1 : k < l.length
      · obtain ⟨b, o, rfl, hc1, hc2, hc3, hb1, hb2, hb3, hb4, hb5⟩ := hc k h1
        have HY := Lib.hid (@smallGo_yes (top - q) l k h1)
        have HN := Lib.hid (@smallGo_no (top - q) l k h1)
        generalize l[k].keep = pk at *
        generalize l[k].drop = pd at *
        generalize l[k].put = pp at *
        have hK : (pk < 0 ∧ max pk 0 = 0) ∨ (0 ≤ pk ∧ max pk 0 = pk) := by omega
        have hD : (pd < 0 ∧ max pd 0 = 0) ∨ (0 ≤ pd ∧ max pd 0 = pd) := by omega
        rcases hK with ⟨hK, eK⟩ | ⟨hK, eK⟩ <;> rcases hD with ⟨hD, eD⟩ | ⟨hD, eD⟩
        all_goals
          rw [eK, eD] at HY HN
          clear hc
          by_cases f1 : max pk 0 ≤ top - q
          · by_cases f2 : max pd 0 ≤ top - q - max pk 0
            · by_cases f3 : (pp.size : Int) ≤ top - q - max pk 0 - max pd 0
              · go_wp2_with fail
                go_quiet (fail)
                go_wp2_with fail
                go_roundw
                case rel => exact ⟨k + 1, q + max pk 0 + max pd 0 + pp.size, by omega, by go_num, by first | (rw [eK, eD]; go_num) | go_num, by omega, by omega, by rw [HG.out, HY.out (by omega) (by omega) (by omega)]; congr 1; omega, ⟨_, rfl⟩⟩
                case measure => simp [intOf]; omega
              · go_wp2_with fail
                go_quiet (fail)
                go_wp2_with fail
                all_goals (go_ret; exact ⟨ret_bool (by rw [smallB, decide_eq_true hlt, HG.out, HN.out (by omega)]; rfl), ⟨_, rfl⟩⟩)
            · go_wp2_with fail
              go_quiet (fail)
              go_wp2_with fail
              all_goals (go_ret; exact ⟨ret_bool (by rw [smallB, decide_eq_true hlt, HG.out, HN.out (by omega)]; rfl), ⟨_, rfl⟩⟩)
          · go_wp2_with fail
            go_quiet (fail)
            go_wp2_with fail
            all_goals (go_ret; exact ⟨ret_bool (by rw [smallB, decide_eq_true hlt, HG.out, HN.out (by omega)]; rfl), ⟨_, rfl⟩⟩)
      · go_wp2_with fail
        go_ret
        refine ⟨ret_bool ?_, ⟨_, rfl⟩⟩
        rw [smallB, decide_eq_true hlt, HG.out, List.drop_of_length_le (by omega)]; rfl
  · go_enter Try.func25, Try.ntmps25
    go_wp2
    go_ret
    exact ⟨ret_bool (by rw [smallB, decide_eq_false (by omega)]; rfl), Qt.refl _⟩
end Go.Proofs.Ytciedipihfkbbaa
