/- Which edits are right: the program's answer. -/
import Derived.Test.YtciedipihfkbbaaEb
import Derived.Test.YtciedipihfkbbaaY
import Derived.Lib.MinMax
namespace Go.Proofs.Ytciedipihfkbbaa
open Go.RowKit

/-- The cells of the pieces of a row. -/
def CellsP (w : World) (a : Option Addr) (l : List Pc) : Prop := ∀ j (h : j < l.length), ∃ b o, a = some ⟨b, o, none⟩ ∧
    w.cell? ⟨b, o + j * 3, none⟩ = some (.int .i64 l[j].keep) ∧ w.cell? ⟨b, o + j * 3 + 1, none⟩ = some (.int .i64 l[j].drop) ∧ w.cell? ⟨b, o + j * 3 + 2, none⟩ = some (.string l[j].put) ∧
    -9223372036854775808 ≤ l[j].keep ∧ l[j].keep ≤ 9223372036854775807 ∧ -9223372036854775808 ≤ l[j].drop ∧ l[j].drop ≤ 9223372036854775807 ∧ l[j].put.size ≤ 9223372036854775807
theorem CellsP.below {w w' : World} {a : Option Addr} {l : List Pc} (hc : CellsP w a l) (hb : Below w.heap.size w w') : CellsP w' a l := by
  intro j hj
  obtain ⟨b, o, rfl, h1, h2, h3, h4⟩ := hc j hj
  exact ⟨b, o, rfl, (hb.cell (p := ⟨_, _, none⟩) (lt_of_cell h1)).trans h1, (hb.cell (p := ⟨_, _, none⟩) (lt_of_cell h2)).trans h2, (hb.cell (p := ⟨_, _, none⟩) (lt_of_cell h3)).trans h3, h4⟩

/-- Is a piece right, of so many bytes put ahead of it? -/
def okPc (n : Int) (p : Pc) : Prop := 0 ≤ p.keep ∧ p.keep ≤ 1048576 ∧ 0 ≤ p.drop ∧ p.drop ≤ 1048576 ∧ (p.put.size : Int) ≤ 1048576 - n
instance (n : Int) (p : Pc) : Decidable (okPc n p) := by unfold okPc; infer_instance
def rightGo (n : Int) : List Pc → Bool
  | [] => true
  | p :: t => decide (okPc n p) && rightGo (n + p.put.size) t
def rightB (l : List Pc) : Bool := decide (l.length ≤ 4096) && rightGo 0 l
theorem rightGo_yes {r : Int} {l : List Pc} {k : Nat} (h : k < l.length) (h1 : okPc r l[k]) : rightGo r (l.drop k) = rightGo (r + l[k].put.size) (l.drop (k + 1)) := by
  rw [drop_cons l k h, rightGo, decide_eq_true h1]; simp
theorem rightGo_no {r : Int} {l : List Pc} {k : Nat} (h : k < l.length) (hn : ¬ okPc r l[k]) : rightGo r (l.drop k) = false := by
  rw [drop_cons l k h, rightGo, decide_eq_false hn]; rfl

set_option maxHeartbeats 3200000 in
set_option maxRecDepth 100000 in
theorem right_any (v : Value) (l : List Pc) (w : World) (h : RdP w v l) :
    Calls Try.prog 46 #[v] w fun e w' => e = .returned (.bool (rightB l)) ∧ Below w.heap.size w w' := by
  obtain ⟨a, cap, rfl, hcap, hb, hn, hc⟩ := h
  have HC := Lib.hid (show CellsP w a l from hc)
  clear hc
  by_cases hlt : l.length ≤ 4096
  · go_enter Try.func46, Try.ntmps46
    go_wp2_with fail
    refine wp_scope_fwd 0 rfl ?_
    go_wp2_with fail
    go_loopw [3, 11] (fun n i w' => ∃ (k : Nat) (q : Int), k ≤ l.length ∧ i = .int .i64 k ∧ n = .int .i64 q ∧ 0 ≤ q ∧ q ≤ 1048576 ∧ rightGo 0 l = rightGo q (l.drop k) ∧ Below w.heap.size w w') (fun _ i _ => l.length - (intOf i).toNat)
    case atStart => exact ⟨0, 0, Nat.zero_le _, rfl, rfl, by omega, by omega, by rw [List.drop_zero], Below.refl _ _⟩
    case round =>
      obtain ⟨k, r, hk, rfl, rfl, hq0, hq1, hgo, HB⟩ := hrel
      have HG := Lib.hid hgo
      clear hgo
      by_cases h1 : k < l.length
      · obtain ⟨b, o, rfl, hc1, hc2, hc3, hb1, hb2, hb3, hb4, hb5⟩ := (HC.out.below HB) k h1
        have HY := Lib.hid (@rightGo_yes r l k h1)
        have HN := Lib.hid (@rightGo_no r l k h1)
        generalize l[k] = p at *
        obtain ⟨pk, pd, pp⟩ := p
        simp only at hc1 hc2 hc3 hb1 hb2 hb3 hb4 hb5
        by_cases f1 : okPc r ⟨pk, pd, pp⟩
        · obtain ⟨f2, f3, f4, f5, f6⟩ := id f1
          simp only at f2 f3 f4 f5 f6
          go_wp2_with fail
          go_roundw
          case rel => exact ⟨k + 1, r + pp.size, by omega, by go_num, by go_num, by omega, by omega, by rw [HG.out, HY.out f1], bAl HB _⟩
          case measure => simp [intOf]; omega
        · have f2 : min pk pd < 0 ∨ ¬ (min pk pd < 0) ∧ (1048576 < max pk pd ∨ ¬ (1048576 < max pk pd) ∧ 1048576 - r < (pp.size : Int)) := by
            unfold okPc at f1; simp only at f1; omega
          have F1 := Lib.hid f1
          clear f1
          rcases f2 with f2 | ⟨f2, f3 | ⟨f3, f4⟩⟩
          all_goals
            go_wp2_with fail
            go_step3
            refine ⟨rfl, ?_⟩
            change Code.wp _ _ _ _ _
            go_wp2_with fail
            rw [Exit.noGoto_ret]
            go_ret
            exact ⟨ret_bool (by rw [rightB, HG.out, HN.out F1.out, Bool.and_false]), bAl HB _⟩
      · go_wp2_with fail
        rw [jump_ret]
        go_ret
        exact ⟨ret_bool (by rw [rightB, decide_eq_true hlt, HG.out, List.drop_of_length_le (by omega)]; rfl), HB⟩
  · go_enter Try.func46, Try.ntmps46
    go_wp2_with fail
    refine wp_scope_fwd 0 rfl ?_
    go_wp2_with fail
    go_step3
    refine ⟨rfl, ?_⟩
    change Code.wp _ _ _ _ _
    go_wp2_with fail
    rw [Exit.noGoto_ret]
    go_ret
    exact ⟨ret_bool (by rw [rightB, decide_eq_false (by omega)]; rfl), Below.refl _ _⟩
end Go.Proofs.Ytciedipihfkbbaa
