/- Contracts: Shift. -/
import Derived.Test.YtadnijagechkcaaF
namespace Go.Proofs.Ytadnijagechkcaa
open Go.RowKit

theorem Own.open_ {base : Nat} {w : World} {v : Value} {l : List Int} (h : Own base w v l) (h0 : 0 < l.length) : ∃ g cap, v = .slice (some ⟨g, 0, none⟩) l.length cap ∧ base ≤ g ∧ g < w.heap.size ∧ l.length ≤ cap ∧ cap ≤ 9223372036854775807 ∧
    (∀ j (h : j < l.length), w.cell? ⟨g, j, none⟩ = some (.int .i64 l[j])) ∧ (∀ j, w.frozen? ⟨g, j, none⟩ = false) := by
  have h' := h
  unfold Own at h'
  have hh := h'.2
  rcases hh with ⟨_, hl⟩ | ⟨g, cap, cur, rfl, hb, hh, hl, hm, _⟩
  · omega
  · refine ⟨g, cap, rfl, hb, ?_, hl, by unfold maxLen at hm; omega, fun j hj => ?_, fun j => h'.frozenAt j⟩
    · exact (Array.getElem?_eq_some_iff.1 hh).1
    · rw [h'.cellAt j (by omega)]
      simp [hj]

theorem Own.set_ {base : Nat} {w : World} {l : List Int} {g cap : Nat} (h : Own base w (.slice (some ⟨g, 0, none⟩) l.length cap) l) (j : Nat) (x : Int) :
    Own base (w.setCell ⟨g, j, none⟩ (.int .i64 x)) (.slice (some ⟨g, 0, none⟩) l.length cap) (l.set j x) := by
  have := World.ownsRow.stored h j (.int .i64 x)
  unfold Own
  rw [List.length_set, List.map_set]
  exact this.1

def GivesErr (k : Int) (w : World) (e : Ending) (w' : World) : Prop := e = .returned (.tuple #[.slice none 0 0, .int .i64 k]) ∧ Below w.heap.size w w'
def GivesOk (l : List Int) (w : World) (e : Ending) (w' : World) : Prop := ∃ r, e = .returned (.tuple #[r, .int .i64 0]) ∧ Own w.heap.size w' r l ∧ Below w.heap.size w w'

set_option maxHeartbeats 400000 in
theorem shift_no (v : Value) (l : List Int) (re im : Nat) (w : World) (hz : Zno re im) :
    Calls Try.prog 30 #[v, .complex .f64 re im] w (GivesErr 2 w) := by
  go_enter Try.func30, Try.ntmps30
  go_wp2_with (go_at_call 39; refine (parts_no _ _ _ hz).mono ?_; rintro e w1 ⟨rfl, rfl⟩)
  go_ret2
  exact ⟨rfl, Below.refl _ _⟩

set_option maxHeartbeats 400000 in
theorem shift_ref_no (v : Value) (l : List Int) (re im : Nat) (w : World) (hz : Zno re im) :
    Calls Try.prog 31 #[v, .complex .f64 re im] w (GivesErr 2 w) := by
  go_enter Try.func31, Try.ntmps31
  go_wp2_with (go_at_call 40; refine (parts_ref_no _ _ _ hz).mono ?_; rintro e w1 ⟨rfl, rfl⟩)
  go_ret2
  exact ⟨rfl, Below.refl _ _⟩

set_option maxHeartbeats 400000 in
theorem shift_bad (v : Value) (l : List Int) (re im a : Nat) (b : Int) (w : World) (hz : Zyes re im a b) (h : Rd w v l) (hl : mayB l = false ∨ l.length ≤ a) :
    Calls Try.prog 30 #[v, .complex .f64 re im] w (GivesErr 2 w) := by
  have Hv := Lib.hid h
  obtain ⟨c, cap, rfl, hcap, hb, hn, hc⟩ := h
  clear hc hn
  cases hm : mayB l
  · clear hl
    go_enter Try.func30, Try.ntmps30
    go_wp2_with (first
      | (go_at_call 39; refine (parts_yes _ _ _ _ _ hz).mono ?_; rintro e w1 ⟨rfl, rfl⟩)
      | (go_at_call 13; refine (may_any _ _ _ Hv.out).mono ?_; rintro e w1 ⟨rfl, rfl⟩))
    go_ret2
    exact ⟨rfl, Below.refl _ _⟩
  · have hla : l.length ≤ a := by simpa [hm] using hl
    clear hl
    go_enter Try.func30, Try.ntmps30
    go_wp2_with (first
      | (go_at_call 39; refine (parts_yes _ _ _ _ _ hz).mono ?_; rintro e w1 ⟨rfl, rfl⟩)
      | (go_at_call 13; refine (may_any _ _ _ Hv.out).mono ?_; rintro e w1 ⟨rfl, rfl⟩))
    go_ret2
    exact ⟨rfl, Below.refl _ _⟩

set_option maxHeartbeats 400000 in
theorem shift_ref_bad (v : Value) (l : List Int) (re im a : Nat) (b : Int) (w : World) (hz : Zyes re im a b) (h : Rd w v l) (hl : mayB l = false ∨ l.length ≤ a) :
    Calls Try.prog 31 #[v, .complex .f64 re im] w (GivesErr 2 w) := by
  have Hv := Lib.hid h
  obtain ⟨c, cap, rfl, hcap, hb, hn, hc⟩ := h
  clear hc hn
  cases hm : mayB l
  · clear hl
    go_enter Try.func31, Try.ntmps31
    go_wp2_with (first
      | (go_at_call 40; refine (parts_ref_yes _ _ _ _ _ hz).mono ?_; rintro e w1 ⟨rfl, rfl⟩)
      | (go_at_call 14; refine (may_ref _ _ _ Hv.out).mono ?_; rintro e w1 ⟨rfl, n1, rfl⟩))
    go_ret2
    exact ⟨rfl, below_drewN (Below.refl _ _) _⟩
  · have hla : l.length ≤ a := by simpa [hm] using hl
    clear hl
    go_enter Try.func31, Try.ntmps31
    go_wp2_with (first
      | (go_at_call 40; refine (parts_ref_yes _ _ _ _ _ hz).mono ?_; rintro e w1 ⟨rfl, rfl⟩)
      | (go_at_call 14; refine (may_ref _ _ _ Hv.out).mono ?_; rintro e w1 ⟨rfl, n1, rfl⟩))
    go_ret2
    exact ⟨rfl, below_drewN (Below.refl _ _) _⟩

theorem may_range {l : List Int} (h : mayB l = true) {a : Nat} (ha : a < l.length) : l.length ≤ 64 ∧ 0 ≤ l[a] ∧ l[a] < 1048576 := ⟨((mayB_all l).1 h).1, ((mayB_all l).1 h).2 a ha⟩

set_option maxHeartbeats 400000 in
theorem shift_limit (v : Value) (l : List Int) (re im a : Nat) (b : Int) (w : World) (hz : Zyes re im a b) (h : Rd w v l) (hm : mayB l = true) (ha : a < l.length) (hr : l[a] + b < 0 ∨ 1048576 ≤ l[a] + b) :
    Calls Try.prog 30 #[v, .complex .f64 re im] w (GivesErr 3 w) := by
  have Hv := Lib.hid h
  obtain ⟨c, cap, rfl, hcap, hb, hn, hc⟩ := h
  obtain ⟨bl, o, rfl, hcell⟩ := hc a ha
  clear hc hn
  obtain ⟨g1, g2, g3⟩ := may_range hm ha
  have g4 := hz.hb
  have g5 := hz.hb'
  by_cases hneg : l[a] + b < 0
  · clear hr
    go_enter Try.func30, Try.ntmps30
    go_wp2_with (first
      | (go_at_call 39; refine (parts_yes _ _ _ _ _ hz).mono ?_; rintro e w1 ⟨rfl, rfl⟩)
      | (go_at_call 13; refine (may_any _ _ _ Hv.out).mono ?_; rintro e w1 ⟨rfl, rfl⟩))
    go_ret2
    exact ⟨rfl, Below.refl _ _⟩
  · have hpos : 1048576 ≤ l[a] + b := by omega
    clear hr
    go_enter Try.func30, Try.ntmps30
    go_wp2_with (first
      | (go_at_call 39; refine (parts_yes _ _ _ _ _ hz).mono ?_; rintro e w1 ⟨rfl, rfl⟩)
      | (go_at_call 13; refine (may_any _ _ _ Hv.out).mono ?_; rintro e w1 ⟨rfl, rfl⟩))
    go_ret2
    exact ⟨rfl, Below.refl _ _⟩

set_option maxHeartbeats 400000 in
theorem shift_ref_limit (v : Value) (l : List Int) (re im a : Nat) (b : Int) (w : World) (hz : Zyes re im a b) (h : Rd w v l) (hm : mayB l = true) (ha : a < l.length) (hr : l[a] + b < 0 ∨ 1048576 ≤ l[a] + b) :
    Calls Try.prog 31 #[v, .complex .f64 re im] w (GivesErr 3 w) := by
  have Hv := Lib.hid h
  obtain ⟨c, cap, rfl, hcap, hb, hn, hc⟩ := h
  obtain ⟨bl, o, rfl, hcell⟩ := hc a ha
  clear hc hn
  obtain ⟨g1, g2, g3⟩ := may_range hm ha
  have g4 := hz.hb
  have g5 := hz.hb'
  by_cases hneg : l[a] + b < 0
  · clear hr
    go_enter Try.func31, Try.ntmps31
    go_wp2_with (first
      | (go_at_call 40; refine (parts_ref_yes _ _ _ _ _ hz).mono ?_; rintro e w1 ⟨rfl, rfl⟩)
      | (go_at_call 14; refine (may_ref _ _ _ Hv.out).mono ?_; rintro e w1 ⟨rfl, n1, rfl⟩))
    go_ret2
    exact ⟨rfl, below_drewN (Below.refl _ _) _⟩
  · have hpos : 1048576 ≤ l[a] + b := by omega
    clear hr
    go_enter Try.func31, Try.ntmps31
    go_wp2_with (first
      | (go_at_call 40; refine (parts_ref_yes _ _ _ _ _ hz).mono ?_; rintro e w1 ⟨rfl, rfl⟩)
      | (go_at_call 14; refine (may_ref _ _ _ Hv.out).mono ?_; rintro e w1 ⟨rfl, n1, rfl⟩))
    go_ret2
    exact ⟨rfl, below_drewN (Below.refl _ _) _⟩

set_option maxHeartbeats 400000 in
theorem shift_ok (v : Value) (l : List Int) (re im a : Nat) (b : Int) (w : World) (hz : Zyes re im a b) (h : Rd w v l) (hm : mayB l = true) (ha : a < l.length) (hr : 0 ≤ l[a] + b) (hr' : l[a] + b < 1048576) :
    Calls Try.prog 30 #[v, .complex .f64 re im] w (GivesOk (l.set a (l[a] + b)) w) := by
  have Hv := Lib.hid h
  obtain ⟨c, cap, rfl, hcap, hb, hn, hc⟩ := h
  obtain ⟨bl, o, rfl, hcell⟩ := hc a ha
  clear hc hn
  obtain ⟨g1, g2, g3⟩ := may_range hm ha
  have g4 := hz.hb
  have g5 := hz.hb'
  go_enter Try.func30, Try.ntmps30
  go_wp2_with (first
    | (go_at_call 39; refine (parts_yes _ _ _ _ _ hz).mono ?_; rintro e w1 ⟨rfl, rfl⟩)
    | (go_at_call 13; refine (may_any _ _ _ Hv.out).mono ?_; rintro e w1 ⟨rfl, rfl⟩)
    | (go_at_call 36; refine (clone_any _ _ _ Hv.out (by omega)).mono ?_; rintro e w1 ⟨r1, rfl, ho1, hb1⟩; obtain ⟨g, cap1, rfl, hg1, hg2, hg3, hg4, hg5, hg6⟩ := ho1.open_ (by omega); have hg7 := hg5 a ha; have hg8 := hg6 a; clear hg5 hg6))
  go_ret2
  exact ⟨_, rfl, ho1.set_ a _, hb1.setCell hg1 _⟩

set_option maxHeartbeats 400000 in
theorem shift_ref_ok (v : Value) (l : List Int) (re im a : Nat) (b : Int) (w : World) (hz : Zyes re im a b) (h : Rd w v l) (hm : mayB l = true) (ha : a < l.length) (hr : 0 ≤ l[a] + b) (hr' : l[a] + b < 1048576) :
    Calls Try.prog 31 #[v, .complex .f64 re im] w (GivesOk (l.set a (l[a] + b)) w) := by
  have Hv := Lib.hid h
  obtain ⟨c, cap, rfl, hcap, hb, hn, hc⟩ := h
  obtain ⟨bl, o, rfl, hcell⟩ := hc a ha
  clear hc hn
  obtain ⟨g1, g2, g3⟩ := may_range hm ha
  have g4 := hz.hb
  have g5 := hz.hb'
  go_enter Try.func31, Try.ntmps31
  go_wp2_with (first
    | (go_at_call 40; refine (parts_ref_yes _ _ _ _ _ hz).mono ?_; rintro e w1 ⟨rfl, rfl⟩)
    | (go_at_call 14; refine (may_ref _ _ _ Hv.out).mono ?_; rintro e w1 ⟨rfl, n1, rfl⟩)
    | (go_at_call 15; refine (copied_ref _ _ _ (Hv.out.drewN _) (by omega)).mono ?_; rintro e w1 ⟨r1, rfl, ho1, hb1⟩; obtain ⟨g, cap1, rfl, hg1, hg2, hg3, hg4, hg5, hg6⟩ := ho1.open_ (by omega); have hg7 := hg5 a ha; have hg8 := hg6 a; clear hg5 hg6))
  go_ret2
  exact ⟨_, rfl, ho1.set_ a _, ((below_drewN (Below.refl _ _) _).trans hb1).setCell hg1 _⟩
end Go.Proofs.Ytadnijagechkcaa
