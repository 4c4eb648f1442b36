/- Which operations are idle: the document's answer. -/
import Derived.Test.YtciedipihfkbbaaEo
import Derived.BigQuiet
namespace Go.Proofs.Ytciedipihfkbbaa
open Go.RowKit

theorem Norm_ref (v : Value) (l : List Pc) (w : World) (h : RdP w v l) :
    Calls Try.prog 31 #[v] w (GivesP (if rightB l then normL l else []) w) := by
  have H := Lib.hid h
  clear h
  obtain ⟨R, hE⟩ : ∃ R, R = if rightB l then normL l else [] := ⟨_, rfl⟩
  rw [← hE]
  have HE := Lib.hid hE
  clear hE
  go_enter Try.func31, Try.ntmps31
  go_wp2_with fail
  go_at_call 52
  refine (right_ref _ _ _ H.out).mono ?_
  rintro e w1 ⟨rfl, hb⟩
  have HB := Lib.hid (hb.below w.heap.size)
  clear hb
  by_cases hR : rightB l = true
  · have HR := Lib.hid hR
    rw [hR]
    clear hR
    go_wp2_with fail
    go_at_call 53
    refine (norm_ref _ _ _ (H.out.below HB.out) HR.out).mono ?_
    rintro e w2 ⟨r, rfl, ho, hb2⟩
    have HO := Lib.hid (And.intro (ho.mono HB.out.size) (bNext HB.out hb2))
    clear ho hb2
    go_wp2_with fail
    go_ret
    exact ⟨r, rfl, by rw [HE.out, HR.out]; exact HO.out.1, HO.out.2⟩
  · rw [Bool.not_eq_true] at hR
    have HR := Lib.hid hR
    rw [hR]
    clear hR
    go_wp2_with fail
    go_ret
    exact ⟨_, rfl, by rw [HE.out, HR.out]; exact OwnP.nil _ _, HB.out⟩

set_option maxHeartbeats 3200000 in
set_option maxRecDepth 100000 in
theorem idle_ref (v : Value) (o : OpV) (w : World) (h : RdO w v o) :
    Calls Try.prog 10 #[v] w fun e w' => e = .returned (.bool (idleB o)) ∧ Below w.heap.size w w' := by
  obtain ⟨p, t, q, rfl, h1, h2, h3, hF⟩ := h
  have hF' := hF
  obtain ⟨k0, k1, g0, g1, l1, l2, l3⟩ := hF'
  have H1 := Lib.hid (Held.new h1 h2 h3 hF)
  obtain ⟨IB, hI⟩ : ∃ b, b = idleB o := ⟨_, rfl⟩
  rw [← hI]
  have HI := Lib.hid hI
  clear h1 h2 h3 hF hI
  unfold OpV.at_
  go_enter Try.func10, Try.ntmps10
  go_wp2_with fail
  go_at_call 30
  refine (formed_ref _ _ _ H1.out.op).mono ?_
  rintro e w1 ⟨rfl, hb1⟩
  have H2 := Lib.hid (H1.out.next hb1)
  clear hb1
  obtain ⟨e0, e1, e2, e3, e4, e5, e6, e7, e8, e9, e10⟩ := H2.out.box.c
  cases c : formedB o
  · have HC := Lib.hid c
    clear c
    go_wp2_with fail
    go_ret
    exact ⟨ret_bool (by rw [HI.out, idle_un HC.out]), H2.out.bel⟩
  · have HC := Lib.hid c
    clear c
    by_cases hk : o.kind = 6
    · have HK := Lib.hid (idle6 HC.out hk)
      have HR := Lib.hid (formed_right HC.out hk)
      go_wp2_with fail
      go_at_call 31
      refine (Norm_ref _ _ _ H2.out.pieces).mono ?_
      rw [HR.out]
      rintro e w3 ⟨r, rfl, ho, hb3⟩
      have HB3 := Lib.hid (bNext H2.out.bel hb3)
      obtain ⟨ra, rc, rfl⟩ := ho.form
      clear ho hb3
      go_wp2_with fail
      go_ret
      exact ⟨ret_bool (by rw [HI.out, HK.out, Bool.eq_iff_iff]; simp only [beq_iff_eq, decide_eq_true_eq]; omega), HB3.out⟩
    · by_cases hk3 : o.kind = 3
      · have HK := Lib.hid (idle3 HC.out hk3)
        have HP := Lib.hid (formed_path HC.out)
        rcases last_form o.path with hp | ⟨l, x, hp⟩
        · have HE := Lib.hid (move_none hp)
          have hpp := H2.out.path
          obtain ⟨pa, pc, rfl, -⟩ := hpp
          rw [hp] at e1
          have HPP := Lib.hid hp
          clear hp
          simp only [List.length_nil] at e1
          go_wp2_with fail
          go_ret
          exact ⟨ret_bool (by rw [HI.out, HK.out, HE.out]), H2.out.bel⟩
        · have HE := Lib.hid (move_some hp)
          have hpp := H2.out.path
          have hlim := HP.out
          rw [hp] at hpp hlim
          have hx := hlim.2 l.length (by simp)
          simp only [List.getElem_concat_length] at hx
          have hll : l.length ≤ 63 := by have := hlim.1; simp at this; omega
          have HQ := Lib.hid hp
          clear hp hlim
          obtain ⟨pa, pc, rfl, hpc, hpb, hpn, hcell⟩ := hpp
          obtain ⟨b, ob, rfl, hc1⟩ := hcell l.length (by simp)
          simp only [List.getElem_concat_length] at hc1
          have HT := Lib.hid (Rd.take (n := l.length) (show Rd w1 (.slice (some ⟨b, ob, none⟩) (l ++ [x]).length pc) (l ++ [x]) from ⟨_, _, rfl, hpc, hpb, hpn, hcell⟩) (by simp))
          rw [List.take_left] at HT
          clear hcell hpn
          rw [show (l ++ [x]).length = l.length + 1 by simp] at e1 hpc
          have hw : IntKind.i64.wrap (x + 1) = x + 1 := IntWalk.i64_in _ (by omega)
          have hw2 : IntKind.i64.wrap ((l.length : Int) + 1 - 1) = l.length := (IntWalk.i64_in _ (by omega)).trans (by omega)
          have hs1 : (0 : Int) ≤ (l.length : Int) := by omega
          have hs2 : (l.length : Int) ≤ (pc : Int) := by omega
          have hs3 : l.length ≤ pc := by omega
          have hs4 : (l.length : Int) < (l.length : Int) + 1 := by omega
          have hs5 : ¬ ((l.length : Int) < 0) := by omega
          have hs6 : ¬ ((pc : Int) < (l.length : Int)) := by omega
          have hg : (o.gap = x ∧ (o.gap == x) = true) ∨ (¬ o.gap = x ∧ (o.gap == x) = false) := by
            by_cases cg : o.gap = x
            · exact .inl ⟨cg, by simp [cg]⟩
            · exact .inr ⟨cg, by simp [cg]⟩
          cases cs : decide (l = o.to) <;> rcases hg with ⟨hg1, hg2⟩ | ⟨hg1, hg2⟩
          all_goals
            have HG := Lib.hid hg1
            clear hg1
            have HS := Lib.hid (fun m => (same_ref _ _ _ _ _ (HT.out.drewN m) (H2.out.to.drewN m)))
            rw [cs] at HS HE
            clear cs
            go_wp2_with fail
            go_quiet ((go_at_call 32; exact Qt.quiet (HS.out _)))
            go_wp2_with fail
            all_goals
              have hg3 := HG.out
              go_ret
              exact ⟨ret_bool (by rw [HI.out, HK.out, HE.out]; grind), bQt H2.out.bel ⟨_, rfl⟩⟩
      · have HK := Lib.hid (idle0 hk hk3)
        go_wp2_with fail
        go_ret
        exact ⟨ret_bool (by rw [HI.out, HK.out]), H2.out.bel⟩
end Go.Proofs.Ytciedipihfkbbaa
