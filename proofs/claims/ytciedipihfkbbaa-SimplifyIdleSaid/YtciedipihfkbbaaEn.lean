/- An edit made normal: the document's walk. -/
import Derived.Test.YtciedipihfkbbaaEm
namespace Go.Proofs.Ytciedipihfkbbaa
open Go.RowKit

theorem OwnP.form {base : Nat} {w : World} {v : Value} {l : List Pc} (h : OwnP base w v l) : ∃ a cap, v = .slice a l.length cap := by
  rcases Joins.ownsRow_forms h with ⟨rfl, h0⟩ | ⟨b, cap, rfl⟩
  · exact ⟨none, 0, by rw [h0]⟩
  · exact ⟨_, cap, rfl⟩

theorem PcCells_set (l : List Pc) (j : Nat) (h : j < l.length) (p : Pc) : (((PcCells l).set (j * 3) (.int .i64 p.keep)).set (j * 3 + 1) (.int .i64 p.drop)).set (j * 3 + 2) (.string p.put) = PcCells (l.set j p) := by
  induction l generalizing j with
  | nil => simp at h
  | cons q t ih =>
    cases j with
    | zero => simp [PcCells]
    | succ j =>
      have := ih j (by simpa using h)
      rw [show (j + 1) * 3 + 2 = j * 3 + 2 + 3 by omega, show (j + 1) * 3 + 1 = j * 3 + 1 + 3 by omega, show (j + 1) * 3 = j * 3 + 3 by omega]
      simpa [PcCells] using this
theorem OwnP.set3 {base b cap B : Nat} {a w : World} {l : List Pc} (h : OwnP base w (.slice (some ⟨b, 0, none⟩) l.length cap) l) (n : Nat) (hn : n < l.length) (p : Pc) (hB : Below B a w) (hbb : B ≤ base) :
    OwnP base (((w.setCell ⟨b, n * 3, none⟩ (.int .i64 p.keep)).setCell ⟨b, n * 3 + 1, none⟩ (.int .i64 p.drop)).setCell ⟨b, n * 3 + 2, none⟩ (.string p.put)) (.slice (some ⟨b, 0, none⟩) l.length cap) (l.set n p) ∧
      Below B a (((w.setCell ⟨b, n * 3, none⟩ (.int .i64 p.keep)).setCell ⟨b, n * 3 + 1, none⟩ (.int .i64 p.drop)).setCell ⟨b, n * 3 + 2, none⟩ (.string p.put)) := by
  have hO : w.ownsRow base 35 3 (.slice (some ⟨b, 0, none⟩) l.length cap) l.length (PcCells l) := h
  have hlt := (World.ownsRow.lt hO b (by simp [Value.ownBlock])).1
  have h1 := (hO.stored (n * 3) (.int .i64 p.keep)).1
  have h2 := (h1.stored (n * 3 + 1) (.int .i64 p.drop)).1
  have h3 := (h2.stored (n * 3 + 2) (.string p.put)).1
  rw [PcCells_set l n hn p] at h3
  refine ⟨?_, ((hB.setCell (Nat.le_trans hbb hlt) _).setCell (Nat.le_trans hbb hlt) _).setCell (Nat.le_trans hbb hlt) _⟩
  unfold OwnP
  rw [List.length_set]
  exact h3

set_option maxHeartbeats 3200000 in
set_option maxRecDepth 100000 in
theorem norm_ref (v : Value) (l : List Pc) (w : World) (h : RdP w v l) (hR : rightB l = true) :
    Calls Try.prog 53 #[v] w (GivesP (normL l) w) := by
  obtain ⟨a, cap, rfl, hcap, hb, hn, hc⟩ := h
  have HC := Lib.hid (show CellsP w a l from hc)
  have hlen : l.length ≤ 4096 := by rw [rightB, Bool.and_eq_true, decide_eq_true_eq] at hR; exact hR.1
  have HR := Lib.hid (norm_able hR)
  have HV := Lib.hid (norm_inv hR)
  have HS := Lib.hid (normFrom_take ([], 0) l)
  have HO := Lib.hid (rightGo_at (l := l) (n := 0) (by rw [rightB, Bool.and_eq_true] at hR; simpa using hR.2))
  clear hc hR
  go_enter Try.func53, Try.ntmps53
  go_wp2_with fail
  go_loopw [3, 4, 5] (fun out keep i w' => ∃ (k : Nat) (m : List Pc × Int), k ≤ l.length ∧ i = .int .i64 k ∧ m = normFrom ([], 0) (l.take k) ∧ keep = .int .i64 m.2 ∧ OwnP w.heap.size w' out m.1 ∧ Below w.heap.size w w') (fun _ _ i _ => l.length - (intOf i).toNat)
  case atStart => exact ⟨0, _, Nat.zero_le _, rfl, rfl, rfl, OwnP.nil _ _, Below.refl _ _⟩
  case round =>
    obtain ⟨k, m, hk, rfl, hm, rfl, ho, hbl⟩ := hrel
    have HM := Lib.hid hm
    have HB := Lib.hid hbl
    have HW := Lib.hid ho
    obtain ⟨ua, ucap, rfl⟩ := ho.form
    clear hm hbl ho
    by_cases h1 : k < l.length
    · obtain ⟨b, o, rfl, hc1, hc2, hc3, hb1, hb2, hb3, hb4, hb5⟩ := (HC.out.below HB.out) k h1
      have hA := HR.out k h1
      have hv := HV.out k (by omega)
      have hE := HS.out k h1
      have ho := HO.out k h1
      rw [← HM.out] at hA hv hE
      generalize l[k] = p at *
      obtain ⟨ml, mk⟩ := m
      simp only at hA hv hE
      obtain ⟨o1, o2, o3, o4, o5⟩ := ho
      obtain ⟨v1, v2, v3, v4⟩ := hv
      simp only at v1 v2 v3 v4
      have HA := Lib.hid hA
      have HV4 := Lib.hid v4
      have HE := Lib.hid hE
      clear hA v4 hE
      have hw : IntKind.i64.wrap (mk + p.keep) = mk + p.keep := IntWalk.i64_in _ (by omega)
      by_cases hz : p.put.size = 0 ∧ p.drop = 0
      · have hz1 : p.put.toList.isEmpty = true := by rw [toList_emp, decide_eq_true_eq]; exact hz.1
        have hz2 := hz.2
        have HZ := Lib.hid (piece_A (l := ml) (k := mk) hz.1 hz.2)
        clear hz
        go_wp2_with fail
        go_roundw
        case rel => exact ⟨k + 1, _, by omega, by go_num, rfl, by rw [HE.out, HZ.out], by rw [HE.out, HZ.out]; exact HW.out, HB.out⟩
        case measure => simp [intOf]; omega
      · have hz' : ¬ (p.put.toList.isEmpty = true) ∨ p.put.toList.isEmpty = true ∧ p.drop ≠ 0 := by
          rw [toList_emp, decide_eq_true_eq]; omega
        have HZ := Lib.hid hz
        clear hz
        by_cases hq : mk + p.keep = 0 ∧ 0 < ml.length
        · obtain ⟨hq1, hq2⟩ := hq
          obtain ⟨n, hn⟩ : ∃ n, n + 1 = ml.length := ⟨ml.length - 1, by omega⟩
          have hnl : n < ml.length := by omega
          have HQ := Lib.hid (piece_B' (l := ml) (k := mk) o3 HZ.out hq1 hn hnl)
          have hOw : wr.ownsRow w.heap.size 35 3 (.slice ua ml.length ucap) ml.length (PcCells ml) := HW.out
          obtain ⟨b2, cap2, e⟩ := Joins.ownsRow_form hOw hq2
          obtain ⟨rfl, -, -⟩ := Value.slice.inj e
          clear e
          have hcs := PcCells_at ml n hnl
          have d0 := (hOw.cellAt (n * 3) (by omega)).trans hcs.1
          have d1 := (hOw.cellAt (n * 3 + 1) (by omega)).trans hcs.2.1
          have d2 := (hOw.cellAt (n * 3 + 2) (by omega)).trans hcs.2.2
          have f0 := hOw.frozenAt (n * 3)
          have f1 := hOw.frozenAt (n * 3 + 1)
          have f2 := hOw.frozenAt (n * 3 + 2)
          obtain ⟨hb2, hb2'⟩ := World.ownsRow.lt hOw b2 (by simp [Value.ownBlock])
          have hbl := lt_of_cell hc1
          have hx := HV4.out _ (List.getElem_mem hnl)
          have HO1 := Lib.hid (show OwnP w.heap.size wr (.slice (some ⟨b2, 0, none⟩) ml.length ucap) ml from hOw)
          clear hOw hcs
          have hw1 : IntKind.i64.wrap (((ml.length : Nat) : Int) - 1) = (n : Int) := (IntWalk.i64_in _ (by omega)).trans (by omega)
          have HNN := Lib.hid hn
          generalize ml[n] = q at *
          clear hn
          have hw2 : IntKind.i64.wrap (q.drop + p.drop) = q.drop + p.drop := IntWalk.i64_in _ (by omega)
          rcases hz' with hz' | ⟨hz', hz2⟩
          all_goals
            go_wp2_with fail
            go_region
            all_goals
              go_wp2_with fail
              go_region
              all_goals
                go_wp2_with fail
                have HT := Lib.hid (OwnP.set3 HO1.out n hnl ⟨q.keep, q.drop + p.drop, q.put ++ p.put⟩ HB.out (Nat.le_refl _))
                go_roundw
                case rel =>
                  refine ⟨k + 1, _, by omega, by go_num, rfl, by rw [HE.out, HQ.out]; exact congrArg _ hq1.symm, ?_, bQt (bAl HT.out.2 _) ⟨2, rfl⟩⟩
                  rw [HE.out, HQ.out]
                  exact HT.out.1.below (bQt (bAl (Below.refl _ _) _) ⟨2, rfl⟩)
                case measure => simp [intOf]; omega
        · have HQ := Lib.hid (piece_C (l := ml) (k := mk) o3 HZ.out (by omega) hq)
          have hq' : ¬ (mk + p.keep = 0) ∨ mk + p.keep = 0 ∧ ml.length = 0 := by omega
          have hbl := lt_of_cell hc1
          have HW1 := Lib.hid (show OwnP w.heap.size wr (.slice ua ml.length ucap) ml from HW.out)
          have HLE := Lib.hid (show (ml ++ [(⟨mk + p.keep, p.drop, p.put⟩ : Pc)]).length = ml.length + 1 by simp)
          clear hq
          rcases hq' with hq | ⟨hq, hq3⟩
          · rcases hz' with hz' | ⟨hz', hz2⟩
            all_goals
              go_wp2_with fail
              go_region_law (refine step_appP rfl (.tmp 71) (.tmp 84) rfl w.heap.size _ ml (by simp [Act.eval, Act.put]) (HW1.out.below (bAl (bQt (Below.refl _ _) ⟨_, rfl⟩) _)) _ [⟨mk + p.keep, p.drop, p.put⟩] (by simp [Act.eval, Act.put]) (RdcP.one _ _) (by first | (simp; omega) | simp) (by have := HB.out.size; simp; omega) ?_; intro v2 w2 hown2 hg2 hat2; obtain ⟨b2, cap2, rfl⟩ := Joins.ownsRow_form hown2 (by simp); have HO2 := Lib.hid hown2; have HG2 := Lib.hid hg2; clear hown2 hg2 hat2)
              go_wp2_with fail
              all_goals
                go_roundw
                case rel =>
                  refine ⟨k + 1, _, by omega, by go_num, rfl, by rw [HE.out, HQ.out], ?_, (bAl (bQt HB.out ⟨_, rfl⟩) _).grown HG2.out (by have := HB.out.size; simp; omega) fun i hi => (World.ownsRow.lt HW1.out i hi).1⟩
                  rw [HE.out, HQ.out]
                  first | exact HO2.out | (have h2 := HO2.out; rw [HLE.out] at h2; exact h2)
                case measure => simp [intOf]; omega
          · obtain rfl : ml = [] := List.eq_nil_of_length_eq_zero hq3
            rw [hq] at HQ
            clear hq3
            rcases hz' with hz' | ⟨hz', hz2⟩
            all_goals
              go_wp2_with fail
              go_region_law (refine step_appP rfl (.tmp 71) (.tmp 84) rfl w.heap.size _ [] (by simp [Act.eval, Act.put]) (HW1.out.below (bAl (bQt (Below.refl _ _) ⟨_, rfl⟩) _)) _ [⟨0, p.drop, p.put⟩] (by simp [Act.eval, Act.put]) (RdcP.one _ _) (by first | (simp; omega) | simp) (by have := HB.out.size; simp; omega) ?_; intro v2 w2 hown2 hg2 hat2; obtain ⟨b2, cap2, rfl⟩ := Joins.ownsRow_form hown2 (by simp); have HO2 := Lib.hid hown2; have HG2 := Lib.hid hg2; clear hown2 hg2 hat2)
              go_wp2_with fail
              all_goals
                go_roundw
                case rel =>
                  refine ⟨k + 1, _, by omega, by go_num, rfl, by rw [HE.out, HQ.out], ?_, (bAl (bQt HB.out ⟨_, rfl⟩) _).grown HG2.out (by have := HB.out.size; simp; omega) fun i hi => (World.ownsRow.lt HW1.out i hi).1⟩
                  rw [HE.out, HQ.out]
                  first | exact HO2.out | (have h2 := HO2.out; rw [HLE.out] at h2; exact h2)
                case measure => simp [intOf]; omega
    · have HK := Lib.hid (show l.take k = l from List.take_of_length_le (by omega))
      go_wp2_with fail
      go_ret
      have e : m.1 = normL l := by rw [HM.out, HK.out]; rfl
      exact ⟨_, rfl, by rw [← e]; exact HW.out, HB.out⟩
end Go.Proofs.Ytciedipihfkbbaa
