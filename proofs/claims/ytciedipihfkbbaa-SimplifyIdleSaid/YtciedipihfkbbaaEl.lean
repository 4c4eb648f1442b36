/- An edit made normal: the program's walk. -/
import Derived.Test.YtciedipihfkbbaaEk
namespace Go.Proofs.Ytciedipihfkbbaa
open Go.RowKit

/-- A row of pieces of one's own is handed back; what was there is as it was. -/
def GivesP (l : List Pc) (w : World) (e : Ending) (w' : World) : Prop := ∃ r, e = .returned r ∧ OwnP w.heap.size w' r l ∧ Below w.heap.size w w'

set_option maxHeartbeats 3200000 in
set_option maxRecDepth 100000 in
theorem norm_any (v : Value) (l : List Pc) (w : World) (h : RdP w v l) (hR : rightB l = true) :
    Calls Try.prog 47 #[v] w (GivesP (normL l) w) := by
  obtain ⟨a, cap, rfl, hcap, hb, hn, hc⟩ := h
  have HC := Lib.hid (show CellsP w a l from hc)
  have hlen : l.length ≤ 4096 := by rw [rightB, Bool.and_eq_true, decide_eq_true_eq] at hR; exact hR.1
  have HR := Lib.hid (norm_able hR)
  have HS := Lib.hid (normFrom_take ([], 0) l)
  clear hc hR
  go_enter Try.func47, Try.ntmps47
  go_wp2_with fail
  go_loopw [8] (fun i w' => ∃ (k : Nat) (u : Value), k ≤ l.length ∧ i = .int .i64 k ∧ MkAt w.heap.size w' w.heap.size u (normFrom ([], 0) (l.take k)).1 (normFrom ([], 0) (l.take k)).2 ∧ Below w.heap.size w w') (fun i _ => l.length - (intOf i).toNat)
  case atStart => exact ⟨0, .slice none 0 0, Nat.zero_le _, rfl, ⟨Nat.le_refl _, Bk.new w _ [.slice none 0 0, .int .i64 0], OwnP.nil _ _⟩, bAl (Below.refl _ _) _⟩
  case round =>
    obtain ⟨k, u, hk, rfl, hm, hbl⟩ := hrel
    have HM := Lib.hid hm
    have HB := Lib.hid hbl
    clear hm hbl
    by_cases h1 : k < l.length
    · obtain ⟨b, o, rfl, hc1, hc2, hc3, hb1, hb2, hb3, hb4, hb5⟩ := (HC.out.below HB.out) k h1
      have HA := Lib.hid (HR.out k h1)
      have HE := Lib.hid (HS.out k h1)
      generalize l[k] = p at *
      clear hb1 hb2 hb3 hb4 hb5
      go_wp2_with fail
      go_at_call 79
      refine (piece_any w.heap.size _ u _ _ p _ (HM.out.below (bAl (Below.refl _ _) _)) HA.out).mono ?_
      rintro e w2 ⟨rfl, ⟨u2, hm2, -⟩, hb2⟩
      have HM2 := Lib.hid hm2
      have HB2 := Lib.hid (show Below w.heap.size w w2 from (bAl HB.out _).trans hb2)
      clear hm2 hb2
      go_wp2_with fail
      go_roundw
      case rel => exact ⟨k + 1, u2, by omega, by go_num, by rw [HE.out]; exact HM2.out, HB2.out⟩
      case measure => simp [intOf]; omega
    · have HK := Lib.hid (show l.take k = l from List.take_of_length_le (by omega))
      have c0 := HM.out.2.1.cell 0
      simp only [List.getElem?_cons_zero] at c0
      go_wp2_with fail
      go_ret
      exact ⟨_, rfl, by have := HM.out.2.2; rw [HK.out] at this; exact this, HB.out⟩

theorem Norm_any (v : Value) (l : List Pc) (w : World) (h : RdP w v l) :
    Calls Try.prog 27 #[v] w (GivesP (if rightB l then normL l else []) w) := by
  have H := Lib.hid h
  clear h
  obtain ⟨R, hE⟩ : ∃ R, R = if rightB l then normL l else [] := ⟨_, rfl⟩
  rw [← hE]
  have HE := Lib.hid hE
  clear hE
  go_enter Try.func27, Try.ntmps27
  go_wp2_with fail
  go_at_call 46
  refine (right_any _ _ _ H.out).mono ?_
  rintro e w1 ⟨rfl, hb⟩
  have HB := Lib.hid hb
  clear hb
  by_cases hR : rightB l = true
  · have HR := Lib.hid hR
    rw [hR]
    clear hR
    go_wp2_with fail
    go_at_call 47
    refine (norm_any _ _ _ (H.out.below HB.out) HR.out).mono ?_
    rintro e w2 ⟨r, rfl, ho, hb2⟩
    have HO := Lib.hid (And.intro (ho.mono HB.out.size) (bNext HB.out hb2))
    clear ho hb2
    go_wp2_with fail
    go_ret
    exact ⟨r, rfl, by rw [HE.out, HR.out]; exact HO.out.1, HO.out.2⟩
  · rw [Bool.not_eq_true] at hR
    have HR := Lib.hid hR
    rw [hR]
    clear hR
    go_wp2_with fail
    go_ret
    exact ⟨_, rfl, by rw [HE.out, HR.out]; exact OwnP.nil _ _, HB.out⟩
end Go.Proofs.Ytciedipihfkbbaa
