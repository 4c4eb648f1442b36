/- The law PathSum. -/
import Derived.Test.YtadnijagechkcaaS
namespace Go.Proofs.Ytadnijagechkcaa
open Go.RowKit

def zSelf (z : Nat × Nat) : Prop := ((FloatKind.f64.format.order z.1 z.1 == some Ordering.eq) && (FloatKind.f64.format.order z.2 z.2 == some Ordering.eq)) = true
def outZ (S : List Int) : Nat → List (Nat × Nat)
  | 0 => []
  | k + 1 => outZ S k ++ (if S.getD k 0 = 0 then [] else [(floatOfInt .f64 (S.getD k 0), floatOfInt .f64 (k : Int))])
theorem outOf_map (S : List Int) (k : Nat) : outOf S k = (outZ S k).map zval := by
  induction k with
  | zero => rfl
  | succ k ih =>
    simp only [outOf, outZ, ih, List.map_append]
    congr 1
    split <;> rfl
theorem outZ_self (S : List Int) (k : Nat) : ∀ z ∈ outZ S k, zSelf z := by
  induction k with
  | zero => intro z hz; cases hz
  | succ k ih =>
    intro z hz
    rw [outZ, List.mem_append] at hz
    rcases hz with hz | hz
    · exact ih z hz
    · split at hz
      · cases hz
      · obtain rfl : z = _ := by simpa using hz
        exact cx_self _ _

set_option maxHeartbeats 800000 in
set_option maxRecDepth 100000 in
theorem sumLaw_err (a : Option Addr) (n cap : Nat) (k : Int) (hk : k = 2 ∨ k = 3) (w : World) (hn : n ≤ 100)
    (c1 : ∀ w', Below w.heap.size w w' → Calls Try.prog 32 #[.slice a n cap] w' (GivesErr k w')) (c2 : ∀ w', Below w.heap.size w w' → Calls Try.prog 33 #[.slice a n cap] w' (GivesErr k w')) :
    Calls Try.prog 11 #[.slice a n cap] w (Holds1 w) := by
  have C1 := Lib.hid c1
  have C2 := Lib.hid c2
  clear c1 c2
  have hk1 : 1 ≤ k := by omega
  clear hk
  go_enter Try.func11, Try.ntmps11
  go_wp2_with fail
  refine (C1.out _ (Below.refl _ _)).mono ?_
  rintro e w1 ⟨rfl, hb1⟩
  go_wp2_with fail
  refine (C2.out _ hb1).mono ?_
  rintro e w2 ⟨rfl, hb2⟩
  have HB2 := bNext hb1 hb2
  clear hb1 hb2
  go_wp2_with fail
  go_loop [7] (fun i => i = .int .i64 0) (fun _ => 0)
  case atStart => rfl
  case round =>
    subst hrel
    go_wp2_with fail
    refine (works_any _).mono ?_
    rintro e w13 ⟨rfl, hb13⟩
    have HB13 := bNext HB2 hb13
    clear hb13 HB2
    go_wp2_with fail
    go_ret
    exact ⟨rfl, HB13⟩

def GivesZs (zs : List (Nat × Nat)) (w : World) (e : Ending) (w' : World) : Prop := ∃ r, e = .returned (.tuple #[r, .int .i64 0]) ∧ RdV w' r (zs.map zval) ∧ Below w.heap.size w w'

set_option maxHeartbeats 800000 in
set_option maxRecDepth 100000 in
theorem sumLaw_ok (a : Option Addr) (n cap : Nat) (zs : List (Nat × Nat)) (hz : ∀ z ∈ zs, zSelf z) (hzl : zs.length ≤ 100) (w : World) (hn : n ≤ 100)
    (c1 : ∀ w', Below w.heap.size w w' → Calls Try.prog 32 #[.slice a n cap] w' (GivesZs zs w')) (c2 : ∀ w', Below w.heap.size w w' → Calls Try.prog 33 #[.slice a n cap] w' (GivesZs zs w')) :
    Calls Try.prog 11 #[.slice a n cap] w (Holds1 w) := by
  have C1 := Lib.hid c1
  have C2 := Lib.hid c2
  have HZ := Lib.hid hz
  clear c1 c2 hz
  go_enter Try.func11, Try.ntmps11
  go_wp2_with fail
  refine (C1.out _ (Below.refl _ _)).mono ?_
  rintro e w1 ⟨r1, rfl, HA, hb1⟩
  go_wp2_with fail
  refine (C2.out _ hb1).mono ?_
  rintro e w2 ⟨r2, rfl, HD, hb2⟩
  have HB2 := bNext hb1 hb2
  have HA2 := HA.below hb2
  clear hb1 hb2 HA
  obtain ⟨a1, c1, rfl, h1, h2, h3⟩ := RdV.zs HA2
  obtain ⟨a2, c2, rfl, h4, h5, h6⟩ := RdV.zs HD
  have H3 := Lib.hid h3
  have H6 := Lib.hid h6
  clear h3 h6 HA2 HD
  go_wp2_with fail
  go_loopw [7] (fun i wr => ∃ k : Nat, k ≤ zs.length ∧ i = .int .i64 k ∧ Qt w2 wr) (fun i _ => zs.length - (intOf i).toNat)
  case atStart => exact ⟨0, Nat.zero_le _, rfl, Qt.refl _⟩
  case round =>
    obtain ⟨k, hk, rfl, hq⟩ := hrel
    have HQ := Lib.hid hq
    clear hq
    by_cases hlt : k < zs.length
    · obtain ⟨b, o, rfl, hc⟩ := H3.out k hlt
      obtain ⟨b', o', rfl, hc'⟩ := H6.out k hlt
      have hc1 : wr.cell? ⟨b, o + k, none⟩ = some (.complex .f64 zs[k].1 zs[k].2) := by obtain ⟨n, rfl⟩ := HQ.out; exact hc
      have hc2 : wr.cell? ⟨b', o' + k, none⟩ = some (.complex .f64 zs[k].1 zs[k].2) := by obtain ⟨n, rfl⟩ := HQ.out; exact hc'
      have hs := HZ.out zs[k] (List.getElem_mem hlt)
      unfold zSelf at hs
      clear hc hc'
      go_wp2_with fail
      go_quiet (fail)
      go_wp2_with fail
      go_roundw
      case rel => exact ⟨k + 1, by omega, by go_num, HQ.out.drewN _⟩
      case measure => simp [intOf]; omega
    · obtain rfl : k = zs.length := by omega
      have HB3 := bQt HB2 HQ.out
      clear HB2 HQ
      go_wp2_with fail
      refine (works_any _).mono ?_
      rintro e w13 ⟨rfl, hb13⟩
      have HB13 := bNext HB3 hb13
      clear hb13 HB3
      go_wp2_with fail
      go_ret
      exact ⟨rfl, HB13⟩

theorem RdV.below {w w' : World} {v : Value} {xs : List Value} (h : RdV w v xs) (hb : Below w.heap.size w w') : RdV w' v xs := Rdc.below h hb

/-- Either all shifts may be, or there is a first one that may not. -/
theorem zs_split (zs : List (Nat × Nat)) (h : ∀ z ∈ zs, Zknown z.1 z.2) : ∃ ps : List (Nat × Int), (∀ j (h : j < ps.length) (h' : j < zs.length), Zyes zs[j].1 zs[j].2 ps[j].1 ps[j].2) ∧
    (ps.length = zs.length ∨ ∃ h : ps.length < zs.length, Zno zs[ps.length].1 zs[ps.length].2) := by
  induction zs with
  | nil => exact ⟨[], fun j h => by simp at h, .inl rfl⟩
  | cons z r ih =>
    rcases h z (List.mem_cons_self ..) with ⟨a, b, hy⟩ | hn
    · obtain ⟨ps, h1, h2⟩ := ih fun y hy => h y (List.mem_cons_of_mem _ hy)
      refine ⟨(a, b) :: ps, fun j hj hj' => ?_, ?_⟩
      · cases j with
        | zero => exact hy
        | succ j => exact h1 j (by simpa using hj) (by simpa using hj')
      · rcases h2 with h2 | ⟨h2, h3⟩
        · left; simp [h2]
        · right; exact ⟨by simpa using h2, by simpa using h3⟩
    · exact ⟨[], fun j h => by simp at h, .inr ⟨by simp, by simpa using hn⟩⟩

theorem lawSum (v : Value) (zs : List (Nat × Nat)) (w : World) (h : RdV w v (zs.map zval)) (hl : zs.length ≤ 100) (hz : ∀ z ∈ zs, Zknown z.1 z.2) : Calls Try.prog 11 #[v] w (Holds1 w) := by
  obtain ⟨a, cap, e, hcap, hb, hc⟩ := RdV.zs h
  subst e
  by_cases h64 : 64 < zs.length
  · exact sumLaw_err a _ cap 2 (.inl rfl) w hl (fun w _ => sum_long a _ cap w h64 (by omega)) (fun w _ => sum_ref_long a _ cap w h64 (by omega))
  · obtain ⟨ps, h1, h2⟩ := zs_split zs hz
    rcases h2 with h2 | ⟨h2, h3⟩
    · have c1 := fun w' (hb : Below w.heap.size w w') => sum_any _ zs ps w' (h.below hb) (by omega) h2 h1
      have c2 := fun w' (hb : Below w.heap.size w w') => sum_ref _ zs ps w' (h.below hb) (by omega) h2 h1
      by_cases hin : ∀ j, j < 64 → InR ((sums ps ps.length).getD j 0)
      · have conv : ∀ w' e w'', SumPost (sums ps ps.length) w' e w'' → GivesZs (outZ (sums ps ps.length) 64) w' e w'' := by
          intro w' e w'' hp
          rcases hp with ⟨⟨j, hj, hn⟩, _⟩ | ⟨_, r, he, ho, hb⟩
          · exact absurd (hin j hj) hn
          · exact ⟨r, he, by rw [← outOf_map]; exact ho.rdv, hb⟩
        refine sumLaw_ok a _ cap (outZ (sums ps ps.length) 64) (outZ_self _ _) ?_ w hl (fun w' hb => (c1 w' hb).mono (conv w')) (fun w' hb => (c2 w' hb).mono (conv w'))
        have := outOf_len (sums ps ps.length) 64
        rw [outOf_map, List.length_map] at this
        omega
      · have conv : ∀ w' e w'', SumPost (sums ps ps.length) w' e w'' → GivesErr 3 w' e w'' := by
          intro w' e w'' hp
          rcases hp with ⟨_, hp⟩ | ⟨hp, _⟩
          · exact hp
          · exact absurd hp hin
        exact sumLaw_err a _ cap 3 (.inr rfl) w hl (fun w' hb => (c1 w' hb).mono (conv w')) (fun w' hb => (c2 w' hb).mono (conv w'))
    · exact sumLaw_err a _ cap 2 (.inl rfl) w hl (fun w' hb => sum_wrong _ zs ps w' (h.below hb) (by omega) h2 (fun j hj => h1 j hj (by omega)) h3) (fun w' hb => sum_ref_wrong _ zs ps w' (h.below hb) (by omega) h2 (fun j hj => h1 j hj (by omega)) h3)
end Go.Proofs.Ytadnijagechkcaa
