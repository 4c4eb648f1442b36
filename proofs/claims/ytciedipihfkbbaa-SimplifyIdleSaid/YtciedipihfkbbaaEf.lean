/- Which operations are formed: the program's answer. -/
import Derived.Test.YtciedipihfkbbaaEe
namespace Go.Proofs.Ytciedipihfkbbaa
open Go.RowKit

def gapB (o : OpV) : Bool := decide (0 ≤ o.gap) && decide (o.gap ≤ 1048576)
/-- What a kind asks, beside the path. -/
def kindB (o : OpV) : Bool :=
  if o.kind = 1 then gapB o && decide (o.label.size ≤ 64) else if o.kind = 2 then true else if o.kind = 3 then gapB o && mayB o.to
  else if o.kind = 4 then keyB o.key && (o.gone || decide (o.val.size ≤ 256)) else if o.kind = 5 then decide (o.label.size ≤ 64) else if o.kind = 6 then rightB o.pieces else false
def formedB (o : OpV) : Bool := mayB o.path && kindB o

theorem kinds (o : OpV) : o.kind = 1 ∨ o.kind = 2 ∨ o.kind = 3 ∨ o.kind = 4 ∨ o.kind = 5 ∨ o.kind = 6 ∨ (o.kind ≠ 1 ∧ o.kind ≠ 2 ∧ o.kind ≠ 3 ∧ o.kind ≠ 4 ∧ o.kind ≠ 5 ∧ o.kind ≠ 6) := by omega
theorem kind1 {o : OpV} (h : o.kind = 1) : kindB o = (gapB o && decide (o.label.size ≤ 64)) := by simp [kindB, h]
theorem kind2 {o : OpV} (h : o.kind = 2) : kindB o = true := by simp [kindB, h]
theorem kind3 {o : OpV} (h : o.kind = 3) : kindB o = (gapB o && mayB o.to) := by simp [kindB, h]
theorem kind4 {o : OpV} (h : o.kind = 4) : kindB o = (keyB o.key && (o.gone || decide (o.val.size ≤ 256))) := by simp [kindB, h]
theorem kind5 {o : OpV} (h : o.kind = 5) : kindB o = decide (o.label.size ≤ 64) := by simp [kindB, h]
theorem kind6 {o : OpV} (h : o.kind = 6) : kindB o = rightB o.pieces := by simp [kindB, h]
theorem kind0 {o : OpV} (h : o.kind ≠ 1 ∧ o.kind ≠ 2 ∧ o.kind ≠ 3 ∧ o.kind ≠ 4 ∧ o.kind ≠ 5 ∧ o.kind ≠ 6) : kindB o = false := by simp [kindB, h]

set_option maxHeartbeats 3200000 in
set_option maxRecDepth 100000 in
theorem formed_any (v : Value) (o : OpV) (w : World) (h : RdO w v o) :
    Calls Try.prog 26 #[v] w fun e w' => e = .returned (.bool (formedB o)) ∧ Below w.heap.size w w' := by
  obtain ⟨p, t, q, rfl, h1, h2, h3, hF⟩ := h
  have hF' := hF
  obtain ⟨k0, k1, g0, g1, l1, l2, l3⟩ := hF'
  have H1 := Lib.hid (Held.new h1 h2 h3 hF)
  have HF := Lib.hid (show formedB o = (mayB o.path && kindB o) from rfl)
  have HG := Lib.hid (show gapB o = (decide (0 ≤ o.gap) && decide (o.gap ≤ 1048576)) from rfl)
  have HK1 := Lib.hid (@kind1 o)
  have HK2 := Lib.hid (@kind2 o)
  have HK3 := Lib.hid (@kind3 o)
  have HK4 := Lib.hid (@kind4 o)
  have HK5 := Lib.hid (@kind5 o)
  have HK6 := Lib.hid (@kind6 o)
  have HK0 := Lib.hid (@kind0 o)
  clear h1 h2 h3 hF
  unfold OpV.at_
  go_enter Try.func26, Try.ntmps26
  go_wp2_with fail
  all_goals
    go_at_call 44
    refine (may_any _ _ _ H1.out.path).mono ?_
    rintro e w1 ⟨rfl, hw1⟩
    rw [hw1] at H1
    clear hw1
    obtain ⟨e0, e1, e2, e3, e4, e5, e6, e7, e8, e9, e10⟩ := H1.out.box.c
    cases cm : mayB o.path
    all_goals
      rw [cm] at HF
      have HC := Lib.hid cm
      clear cm
      rcases kinds o with hk | hk | hk | hk | hk | hk | hk
      · have HX := Lib.hid (HK1.out hk)
        go_wp2_with fail
        all_goals
          go_ret
          exact ⟨ret_bool (by rw [HF.out, HX.out, HG.out]; (simp [*] <;> first | omega | (intro hh; omega))), H1.out.bel⟩
      · have HX := Lib.hid (HK2.out hk)
        go_wp2_with fail
        all_goals
          go_ret
          exact ⟨ret_bool (by rw [HF.out, HX.out]; (simp [*] <;> first | omega | (intro hh; omega))), H1.out.bel⟩
      · have HX := Lib.hid (HK3.out hk)
        go_wp2_with (go_at_call 44; refine (may_any _ _ _ H1.out.to).mono ?_; rintro e w1 ⟨rfl, rfl⟩)
        all_goals
          go_ret
          exact ⟨ret_bool (by rw [HF.out, HX.out, HG.out]; (simp [*] <;> first | omega | (intro hh; omega))), H1.out.bel⟩
      · have HX := Lib.hid (HK4.out hk)
        go_wp2_with (go_at_call 45; refine (key_any _ _).mono ?_; rintro e w1 ⟨rfl, rfl⟩)
        all_goals
          go_ret
          exact ⟨ret_bool (by rw [HF.out, HX.out]; (simp [*] <;> first | omega | (intro hh; omega))), H1.out.bel⟩
      · have HX := Lib.hid (HK5.out hk)
        go_wp2_with fail
        all_goals
          go_ret
          exact ⟨ret_bool (by rw [HF.out, HX.out]; (simp [*] <;> first | omega | (intro hh; omega))), H1.out.bel⟩
      · have HX := Lib.hid (HK6.out hk)
        go_wp2_with (go_at_call 46; refine (right_any _ _ _ H1.out.pieces).mono ?_; rintro e w2 ⟨rfl, hb1⟩; replace H1 := Lib.hid (H1.out.next hb1); clear hb1 e0 e1 e2 e3 e4 e5 e6 e7 e8 e9 e10; obtain ⟨e0, e1, e2, e3, e4, e5, e6, e7, e8, e9, e10⟩ := H1.out.box.c)
        all_goals
          go_ret
          exact ⟨ret_bool (by rw [HF.out, HX.out]; (simp [*] <;> first | omega | (intro hh; omega))), H1.out.bel⟩
      · have HX := Lib.hid (HK0.out hk)
        obtain ⟨n1, n2, n3, n4, n5, n6⟩ := hk
        go_wp2_with fail
        all_goals
          go_ret
          exact ⟨ret_bool (by rw [HF.out, HX.out]; (simp [*] <;> first | omega | (intro hh; omega))), H1.out.bel⟩
end Go.Proofs.Ytciedipihfkbbaa
