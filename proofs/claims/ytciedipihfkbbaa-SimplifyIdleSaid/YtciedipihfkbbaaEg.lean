/- Which operations are formed: the document's answer. -/
import Derived.Test.YtciedipihfkbbaaEf
namespace Go.Proofs.Ytciedipihfkbbaa
open Go.RowKit

set_option maxHeartbeats 3200000 in
set_option maxRecDepth 100000 in
theorem formed_ref (v : Value) (o : OpV) (w : World) (h : RdO w v o) :
    Calls Try.prog 30 #[v] w fun e w' => e = .returned (.bool (formedB o)) ∧ Below w.heap.size w w' := by
  obtain ⟨p, t, q, rfl, h1, h2, h3, hF⟩ := h
  have hF' := hF
  obtain ⟨k0, k1, g0, g1, l1, l2, l3⟩ := hF'
  have H1 := Lib.hid (Held.new h1 h2 h3 hF)
  have HF := Lib.hid (show formedB o = (mayB o.path && kindB o) from rfl)
  have HG := Lib.hid (show gapB o = (decide (0 ≤ o.gap) && decide (o.gap ≤ 1048576)) from rfl)
  have HK1 := Lib.hid (@kind1 o)
  have HK2 := Lib.hid (@kind2 o)
  have HK3 := Lib.hid (@kind3 o)
  have HK4 := Lib.hid (@kind4 o)
  have HK5 := Lib.hid (@kind5 o)
  have HK6 := Lib.hid (@kind6 o)
  have HK0 := Lib.hid (@kind0 o)
  clear h1 h2 h3 hF
  unfold OpV.at_
  go_enter Try.func30, Try.ntmps30
  go_wp2_with fail
  all_goals
    go_at_call 50
    refine (may_ref _ _ _ H1.out.path).mono ?_
    rintro e w1 ⟨rfl, hw1⟩
    replace H1 := Lib.hid (H1.out.qt hw1)
    clear hw1
    obtain ⟨e0, e1, e2, e3, e4, e5, e6, e7, e8, e9, e10⟩ := H1.out.box.c
    cases cm : mayB o.path
    all_goals
      rw [cm] at HF
      have HC := Lib.hid cm
      clear cm
      rcases kinds o with hk | hk | hk | hk | hk | hk | hk
      · have HX := Lib.hid (HK1.out hk)
        go_wp2_with fail
        all_goals
          go_ret
          exact ⟨ret_bool (by rw [HF.out, HX.out, HG.out]; (simp [*] <;> first | omega | (intro hh; omega))), H1.out.bel⟩
      · have HX := Lib.hid (HK2.out hk)
        go_wp2_with fail
        all_goals
          go_ret
          exact ⟨ret_bool (by rw [HF.out, HX.out]; (simp [*] <;> first | omega | (intro hh; omega))), H1.out.bel⟩
      · have HX := Lib.hid (HK3.out hk)
        go_wp2_with (go_at_call 50; refine (may_ref _ _ _ H1.out.to).mono ?_; rintro e w2 ⟨rfl, hb1⟩; replace H1 := Lib.hid (H1.out.qt hb1); clear hb1 e0 e1 e2 e3 e4 e5 e6 e7 e8 e9 e10; obtain ⟨e0, e1, e2, e3, e4, e5, e6, e7, e8, e9, e10⟩ := H1.out.box.c)
        all_goals
          go_ret
          exact ⟨ret_bool (by rw [HF.out, HX.out, HG.out]; (simp [*] <;> first | omega | (intro hh; omega))), H1.out.bel⟩
      · have HX := Lib.hid (HK4.out hk)
        go_wp2_with (go_at_call 51; refine (key_ref _ _).mono ?_; rintro e w1 ⟨rfl, rfl⟩)
        all_goals
          go_ret
          exact ⟨ret_bool (by rw [HF.out, HX.out]; (simp [*] <;> first | omega | (intro hh; omega))), H1.out.bel⟩
      · have HX := Lib.hid (HK5.out hk)
        go_wp2_with fail
        all_goals
          go_ret
          exact ⟨ret_bool (by rw [HF.out, HX.out]; (simp [*] <;> first | omega | (intro hh; omega))), H1.out.bel⟩
      · have HX := Lib.hid (HK6.out hk)
        go_wp2_with (go_at_call 52; refine (right_ref _ _ _ H1.out.pieces).mono ?_; rintro e w2 ⟨rfl, hb1⟩; replace H1 := Lib.hid (H1.out.qt hb1); clear hb1 e0 e1 e2 e3 e4 e5 e6 e7 e8 e9 e10; obtain ⟨e0, e1, e2, e3, e4, e5, e6, e7, e8, e9, e10⟩ := H1.out.box.c)
        all_goals
          go_ret
          exact ⟨ret_bool (by rw [HF.out, HX.out]; (simp [*] <;> first | omega | (intro hh; omega))), H1.out.bel⟩
      · have HX := Lib.hid (HK0.out hk)
        obtain ⟨n1, n2, n3, n4, n5, n6⟩ := hk
        go_wp2_with fail
        all_goals
          go_ret
          exact ⟨ret_bool (by rw [HF.out, HX.out]; (simp [*] <;> first | omega | (intro hh; omega))), H1.out.bel⟩
end Go.Proofs.Ytciedipihfkbbaa
