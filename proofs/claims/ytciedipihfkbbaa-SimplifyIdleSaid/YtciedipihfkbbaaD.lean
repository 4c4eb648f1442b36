/- Contracts: Clone, Copied, Child, Parent. -/
import Derived.Test.YtciedipihfkbbaaC
import Derived.Deep.RegionWith
namespace Go.Proofs.Ytciedipihfkbbaa
open Go.RowKit

/-- A row of numbers of one's own is handed back; what was there is as it was. -/
def GivesRow (l : List Int) (w : World) (e : Ending) (w' : World) : Prop := ∃ r, e = .returned r ∧ Own w.heap.size w' r l ∧ Below w.heap.size w w'

theorem Own.empty (w : World) : Own w.heap.size (w.alloc (.cells #[] 3)) (.slice (some ⟨w.heap.size, 0, none⟩) 0 0) [] :=
  World.ownsRow_lit (size := 1) w #[] 0 (Nat.le_refl _) (by unfold maxLen; omega) rfl

set_option maxHeartbeats 400000 in
theorem clone_any (v : Value) (l : List Int) (w : World) (h : Rd w v l) (hl : l.length ≤ 100000) :
    Calls Try.prog 48 #[v] w (GivesRow l w) := by
  have Hv := Lib.hid h
  obtain ⟨a, cap, rfl, hcap, hb, hn, hc⟩ := h
  clear hc
  cases a with
  | none =>
    have hm : cap = 0 := hn rfl
    obtain rfl : l = [] := List.eq_nil_of_length_eq_zero (by omega)
    subst hm
    have k1 := fun w => Lib.run_eql_slice_nil (P := Try.prog) w 22 3 none 0 0 0 0 Try.underlying22
    go_enter Try.func48, Try.ntmps48
    go_wp2_with fail
    go_ret
    exact ⟨_, rfl, Own.nil _ _, Below.refl _ _⟩
  | some ad =>
    have k1 := fun w => Lib.run_eql_slice_nil (P := Try.prog) w 22 3 (some ad) l.length cap 0 0 Try.underlying22
    go_enter Try.func48, Try.ntmps48
    have HR := Lib.hid (Hv.out.alloc (.cells #[] 3))
    have HE := Lib.hid (Own.empty w)
    go_wp2_with (at_builtin; refine wpList_appI rfl (.tmp 5) (.tmp 6) rfl w.heap.size _ [] rfl HE.out _ l rfl HR.out (by simp; omega) (by simp) ?_; intro v1 w1 hown1 hg1 hat1)
    go_ret
    exact ⟨_, rfl, by simpa using hown1, below_app ((Below.refl _ _).alloc (Nat.le_refl _) _) HE.out hg1 (by simp) (Nat.le_refl _)⟩

set_option maxHeartbeats 400000 in
theorem copied_ref (v : Value) (l : List Int) (w : World) (h : Rd w v l) (hl : l.length ≤ 100000) :
    Calls Try.prog 64 #[v] w (GivesRow l w) := by
  go_enter Try.func64, Try.ntmps64
  go_wp2_with (at_builtin; refine wpList_appI rfl (.tmp 4) (.tmp 5) rfl w.heap.size _ [] rfl (Own.nil _ _) _ l rfl h (by simp; omega) (by simp) ?_; intro v1 w1 hown1 hg1 hat1)
  go_ret
  exact ⟨_, rfl, by simpa using hown1, below_app (Below.refl _ _) (Own.nil w.heap.size w) hg1 (by simp) (Nat.le_refl _)⟩

theorem Rd.one (w : World) (x : Int) : Rd (w.alloc (.cells #[.int .i64 x] 3)) (.slice (some ⟨w.heap.size, 0, none⟩) 1 1) [x] := by
  refine ⟨_, 1, rfl, by simp, by omega, fun h => by simp at h, fun j hj => ⟨_, _, rfl, ?_⟩⟩
  obtain rfl : j = 0 := by simpa using hj
  simp

set_option maxHeartbeats 400000 in
theorem child_any (v : Value) (l : List Int) (i : Int) (w : World) (h : Rd w v l) (hl : l.length ≤ 100000) :
    Calls Try.prog 34 #[v, .int .i64 i] w (GivesRow (l ++ [i]) w) := by
  go_enter Try.func34, Try.ntmps34
  go_wp2_with (first
    | (go_at_call 48; refine (clone_any _ _ _ h hl).mono ?_; rintro e w1 ⟨r1, rfl, ho1, hb1⟩)
    | (at_builtin; refine wpList_appI rfl (.tmp 6) (.tmp 8) rfl w.heap.size _ l rfl (ho1.below ((Below.refl _ _).alloc (Nat.le_refl _) _)) _ [i] rfl (Rd.one _ _) (by simp; omega) (Nat.le_trans hb1.size (by simp)) ?_; intro v2 w2 hown2 hg2 hat2))
  go_ret
  exact ⟨_, rfl, hown2, below_app (hb1.alloc hb1.size _) (ho1.below ((Below.refl _ _).alloc (Nat.le_refl _) _)) hg2 (Nat.le_trans hb1.size (by simp)) (Nat.le_refl _)⟩

set_option maxHeartbeats 400000 in
theorem child_ref (v : Value) (l : List Int) (i : Int) (w : World) (h : Rd w v l) (hl : l.length ≤ 100000) :
    Calls Try.prog 37 #[v, .int .i64 i] w (GivesRow (l ++ [i]) w) := by
  go_enter Try.func37, Try.ntmps37
  go_wp2_with (first
    | (go_at_call 64; refine (copied_ref _ _ _ h hl).mono ?_; rintro e w1 ⟨r1, rfl, ho1, hb1⟩)
    | (at_builtin; refine wpList_appI rfl (.tmp 6) (.tmp 8) rfl w.heap.size _ l rfl (ho1.below ((Below.refl _ _).alloc (Nat.le_refl _) _)) _ [i] rfl (Rd.one _ _) (by simp; omega) (Nat.le_trans hb1.size (by simp)) ?_; intro v2 w2 hown2 hg2 hat2))
  go_ret
  exact ⟨_, rfl, hown2, below_app (hb1.alloc hb1.size _) (ho1.below ((Below.refl _ _).alloc (Nat.le_refl _) _)) hg2 (Nat.le_trans hb1.size (by simp)) (Nat.le_refl _)⟩

/-- The parent's row, the last number, and that there is one. -/
def GivesParent (l : List Int) (x : Int) (w : World) (e : Ending) (w' : World) : Prop := ∃ r, e = .returned (.tuple #[r, .int .i64 x, .bool true]) ∧ Own w.heap.size w' r l ∧ Below w.heap.size w w'

set_option maxHeartbeats 400000 in
theorem parent_none (a : Option Addr) (cap : Nat) (w : World) :
    Calls Try.prog 28 #[.slice a 0 cap] w fun e w' => e = .returned (.tuple #[.slice none 0 0, .int .i64 0, .bool false]) ∧ w = w' := by
  go_enter Try.func28, Try.ntmps28
  go_wp2_with fail
  go_ret3
  exact ⟨rfl, rfl⟩

set_option maxHeartbeats 400000 in
theorem parent_some (v : Value) (l : List Int) (x : Int) (w : World) (h : Rd w v (l ++ [x])) (hl : l.length ≤ 100000) :
    Calls Try.prog 28 #[v] w (GivesParent l x w) := by
  have Hv := Lib.hid h
  obtain ⟨a, cap, rfl, hcap, hb, hn, hc⟩ := h
  obtain ⟨b, o, rfl, hcell⟩ := hc l.length (by simp)
  have HT := Lib.hid (Hv.out.take (n := l.length) (by simp))
  clear hc hn
  rw [List.take_left] at HT
  simp only [List.getElem_concat_length] at hcell
  have hlen : (l ++ [x]).length = l.length + 1 := by simp
  rw [hlen] at hcap ⊢
  have h1 : ((l.length + 1 : Int) == 0) = false := by simp; omega
  have h2 : ((l.length + 1 : Nat) == 0) = false := by simp
  go_enter Try.func28, Try.ntmps28
  go_wp2_with fail
  go_region_with (go_at_call 48; refine (clone_any _ _ _ (HT.out.drewN _) hl).mono ?_; rintro e w1 ⟨r1, rfl, ho1, hb1⟩; have hc1 := (hb1.cell (p := ⟨b, o + l.length, none⟩) (lt_of_cell hcell)).trans hcell)
  all_goals (go_wp2; go_ret3; exact ⟨r1, rfl, ho1, (Below.refl _ _).drew.trans hb1⟩)
end Go.Proofs.Ytciedipihfkbbaa
