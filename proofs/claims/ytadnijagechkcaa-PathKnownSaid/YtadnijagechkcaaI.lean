/- Contracts: the reference's Between. -/
import Derived.Test.YtadnijagechkcaaH
namespace Go.Proofs.Ytadnijagechkcaa
open Go.RowKit

theorem Rd.dropIf {w : World} {b o cap k : Nat} {l : List Int} (h : Rd w (.slice (some ⟨b, o, none⟩) l.length cap) l) (hk : k ≤ l.length) :
    Rd w (.slice (if cap = k then some ⟨b, o, none⟩ else some ⟨b, o + k, none⟩) (l.length - k) (cap - k)) (l.drop k) := by
  obtain ⟨a', cap', e, h1, h2, h3, h4⟩ := h
  obtain ⟨rfl, -, rfl⟩ := Value.slice.inj e
  refine ⟨if cap = k then some ⟨b, o, none⟩ else some ⟨b, o + k, none⟩, cap - k, by rw [List.length_drop], by rw [List.length_drop]; omega, by omega, ?_, fun j hj => ?_⟩
  · intro hh; split at hh <;> cases hh
  rw [List.length_drop] at hj
  obtain ⟨b', o', e, hc⟩ := h4 (k + j) (by omega)
  obtain ⟨rfl, rfl⟩ : b = b' ∧ o = o' := by simpa using e
  rw [if_neg (by omega)]
  exact ⟨b, o + k, rfl, by rw [Nat.add_assoc, hc, List.getElem_drop]⟩

set_option maxHeartbeats 1600000 in
theorem between_ref (v u : Value) (l m : List Int) (w : World) (h : Rd w v l) (h' : Rd w u m) (hlen : l.length = m.length) (h1 : mayB l = true) (h2 : mayB m = true) :
    Calls Try.prog 29 #[v, u] w (BetPost l m w) := by
  have Hv := Lib.hid h
  have Hu := Lib.hid h'
  obtain ⟨a, cap, rfl, hcap, hb, hn, hc⟩ := h
  obtain ⟨a', cap', rfl, hcap', hb', hn', hc'⟩ := h'
  clear hn hn'
  have hl0 : ((l.length : Int) != m.length) = false := by rw [hlen]; simp
  have hl1 : (l.length != m.length) = false := by rw [hlen]; simp
  have HL := Lib.hid hlen
  have HM1 := Lib.hid ((mayB_all l).1 h1).2
  have HM2 := Lib.hid ((mayB_all m).1 h2).2
  have hle : l.length ≤ m.length := by omega
  have h64 := may_of l h1
  have hcl := (com_le l m).1
  clear hlen
  have HD := Lib.hid (@diffAt_of l m HL.out)
  have HN := Lib.hid (fun n (hd : DiffAt l m n) => And.intro hd.isCom hd.drop)
  generalize hk : com l m = k at *
  have HK := Lib.hid hk
  clear hk
  by_cases he : k = l.length
  · have h1a : ((k : Int) == l.length) = true := by simp [he]
    have h1b : (k == l.length) = true := by simp [he]
    have HE := Lib.hid he
    clear he
    go_enter Try.func29, Try.ntmps29
    go_wp2_with fail
    refine (may_ref _ _ _ Hv.out).mono ?_
    rintro e w1 ⟨rfl, n1, rfl⟩
    go_wp2_with fail
    refine (may_ref _ _ _ (Hu.out.drewN _)).mono ?_
    rintro e w1 ⟨rfl, n2, rfl⟩
    go_wp2_with fail
    refine (common_ref _ _ _ _ _ ((Hv.out.drewN _)) (Hu.out.drewN _)).mono ?_
    rintro e w1 ⟨rfl, n3, rfl⟩
    rw [HK.out]
    go_wp2_with fail
    go_quiet (fail)
    go_wp2_with fail
    go_ret2
    refine .inl ⟨fun n hd => ?_, rfl, (by first | exact ⟨_, rfl⟩ | exact Qt.drewN ⟨_, rfl⟩ _)⟩
    have := (HN.out n hd).1
    have := hd.lt
    have := HK.out
    have := HE.out
    omega
  · have h1a : ((k : Int) == l.length) = false := by simp; omega
    have h1b : (k == l.length) = false := by simp; omega
    have hlt : k < l.length := by omega
    have hlt' : k < m.length := by omega
    obtain ⟨b, o, rfl, hcell⟩ := hc k hlt
    obtain ⟨b', o', rfl, hcell'⟩ := hc' k hlt'
    go_enter Try.func29, Try.ntmps29
    go_wp2_with fail
    refine (may_ref _ _ _ Hv.out).mono ?_
    rintro e w1 ⟨rfl, n1, rfl⟩
    go_wp2_with fail
    refine (may_ref _ _ _ (Hu.out.drewN _)).mono ?_
    rintro e w1 ⟨rfl, n2, rfl⟩
    go_wp2_with fail
    refine (common_ref _ _ _ _ _ ((Hv.out.drewN _)) (Hu.out.drewN _)).mono ?_
    rintro e w1 ⟨rfl, n3, rfl⟩
    rw [HK.out]
    go_wp2_with fail
    have HV2 := Lib.hid (Hv.out.dropIf (k := k + 1) (by omega))
    have HU2 := Lib.hid (Hu.out.dropIf (k := k + 1) (by omega))
    have hcd := com_le (l.drop (k + 1)) (m.drop (k + 1))
    rw [List.length_drop, List.length_drop] at hcd
    generalize hq : com (l.drop (k + 1)) (m.drop (k + 1)) = q at *
    have HQ := Lib.hid hq
    clear hq
    have HC := Lib.hid (fun x => by have hh := common_ref _ _ _ _ _ (HV2.out.drewN x) (HU2.out.drewN x); rw [HQ.out] at hh; exact hh)
    have hqz : k + 1 ≤ l.length := by omega
    have hqz' : k + 1 ≤ m.length := by omega
    have s0 : 0 ≤ (k : Int) + 1 := by omega
    have s1 : (k : Int) + 1 ≤ (l.length : Int) := by omega
    have s1' : (k : Int) + 1 ≤ (m.length : Int) := by omega
    by_cases hqe : q = l.length - k - 1
    · have hd1 : ((q : Int) != (l.length : Int) - k - 1) = false := by simp; omega
      have HQE := Lib.hid hqe
      clear hqe
      have s2 : IntKind.i64.wrap ((l.length : Int) - k) = (l.length : Int) - k := IntWalk.i64_in _ (by omega)
      have s3 : IntKind.i64.wrap ((l.length : Int) - k - 1) = (l.length : Int) - k - 1 := IntWalk.i64_in _ (by omega)
      have s4 : IntKind.i64.wrap ((k : Int) + 1) = (k : Int) + 1 := IntWalk.i64_in _ (by omega)
      have s5 : ((k : Int) + 1).toNat = k + 1 := by omega
      go_quiet ((go_at_call 25; exact Qt.quiet2 (HC.out _)))
      clear s2 s3 s4 s5
      have HDF := Lib.hid (HD.out hlt HQE.out)
      have g1 := HM1.out k hlt
      have g2 := HM2.out k hlt'
      go_wp2_with fail
      all_goals
        go_quiet (fail)
        go_wp2_with fail
        go_ret2
        refine .inr ⟨k, HDF.out, ?_, (by first | exact ⟨_, rfl⟩ | exact Qt.drewN ⟨_, rfl⟩ _)⟩
        simp [List.getD, hlt, hlt']
    · have hd1 : ((q : Int) != (l.length : Int) - k - 1) = true := by simp; omega
      have s2 : IntKind.i64.wrap ((l.length : Int) - k) = (l.length : Int) - k := IntWalk.i64_in _ (by omega)
      have s3 : IntKind.i64.wrap ((l.length : Int) - k - 1) = (l.length : Int) - k - 1 := IntWalk.i64_in _ (by omega)
      have s4 : IntKind.i64.wrap ((k : Int) + 1) = (k : Int) + 1 := IntWalk.i64_in _ (by omega)
      have s5 : ((k : Int) + 1).toNat = k + 1 := by omega
      go_quiet ((go_at_call 25; exact Qt.quiet2 (HC.out _)))
      clear s2 s3 s4 s5
      go_wp2_with fail
      all_goals
        go_ret2
        refine .inl ⟨fun n hd => ?_, rfl, (by first | exact ⟨_, rfl⟩ | exact Qt.drewN ⟨_, rfl⟩ _)⟩
        obtain ⟨e1, e2⟩ := HN.out n hd
        rw [← e1, HQ.out] at e2
        omega
end Go.Proofs.Ytadnijagechkcaa
