/- Contracts: the reference's Sum. -/
import Derived.Test.YtadnijagechkcaaK
namespace Go.Proofs.Ytadnijagechkcaa
open Go.RowKit

set_option maxHeartbeats 400000 in
set_option maxRecDepth 100000 in
theorem sum_ref_long (a : Option Addr) (n cap : Nat) (w : World) (hcap : 64 < n) (hn : n ≤ 1000000) :
    Calls Try.prog 33 #[.slice a n cap] w (GivesErr 2 w) := by
  go_enter Try.func33, Try.ntmps33
  go_wp2_with fail
  go_ret2
  exact ⟨rfl, Below.refl _ _⟩

set_option maxHeartbeats 800000 in
set_option maxRecDepth 100000 in
theorem sum_ref_wrong (v : Value) (zs : List (Nat × Nat)) (ps : List (Nat × Int)) (w : World) (h : RdV w v (zs.map zval)) (hn : zs.length ≤ 64) (hp : ps.length < zs.length)
    (hy : ∀ j (h : j < ps.length), Zyes zs[j].1 zs[j].2 ps[j].1 ps[j].2) (hno : Zno zs[ps.length].1 zs[ps.length].2) :
    Calls Try.prog 33 #[v] w (GivesErr 2 w) := by
  obtain ⟨a, cap, rfl, hcap, hb, hc⟩ := h.zs
  clear h
  have HS := Lib.hid (sums_bd ps · (by omega) (fun j h => ⟨(hy j h).hb, (hy j h).hb'⟩))
  go_enter Try.func33, Try.ntmps33
  go_wp2_with fail
  go_loopw [5] (fun i wr => ∃ k : Nat, k ≤ ps.length ∧ i = .int .i64 k ∧ Bk wr w.heap.size 51 ((sums ps k).map (Value.int .i64)) ∧ Below w.heap.size w wr) (fun i _ => zs.length - (intOf i).toNat)
  case atStart => exact ⟨0, Nat.zero_le _, rfl, heap_alloc_new w _, (Below.refl _ _).alloc (Nat.le_refl _) _⟩
  case round =>
    obtain ⟨k, hk, rfl, hbk, hbw⟩ := hrel
    obtain ⟨b, o, rfl, hcell⟩ := hc k (by omega)
    have hcell' := (hbw.cell (p := ⟨b, o + k, none⟩) (lt_of_cell hcell)).trans hcell
    clear hcell
    by_cases hlt : k < ps.length
    · have hz := hy k hlt
      have hs1 := HS.out k ps[k].1
      rw [List.getD_eq_getElem?_getD] at hs1
      have hz1 := hz.hb
      have hz2 := hz.hb'
      have hz3 := hz.ha
      have hcl := (hbk.cell ps[k].1).trans (sums_cells _ (sums_len ps k) _ hz3)
      have hfr := hbk.frozen ps[k].1
      have hlt2 : k < zs.length := by omega
      go_wp2_with (go_at_call 40; refine (parts_ref_yes _ _ _ _ _ hz).mono ?_; rintro e w1 ⟨rfl, rfl⟩)
      go_roundw
      case rel => exact ⟨k + 1, by omega, by go_num, by rw [sums_step ps k hlt]; exact hbk.set_ _ _, hbw.setCell (Nat.le_refl _) _⟩
      case measure => simp [intOf]; omega
    · obtain rfl : k = ps.length := by omega
      go_wp2_with (go_at_call 40; refine (parts_ref_no _ _ _ hno).mono ?_; rintro e w1 ⟨rfl, rfl⟩)
      go_ret2
      exact ⟨rfl, hbw⟩

set_option maxHeartbeats 800000 in
set_option maxRecDepth 100000 in
theorem sum_ref (v : Value) (zs : List (Nat × Nat)) (ps : List (Nat × Int)) (w : World) (h : RdV w v (zs.map zval)) (hn : zs.length ≤ 64) (hp : ps.length = zs.length)
    (hy : ∀ j (h : j < ps.length) (h' : j < zs.length), Zyes zs[j].1 zs[j].2 ps[j].1 ps[j].2) :
    Calls Try.prog 33 #[v] w (SumPost (sums ps ps.length) w) := by
  obtain ⟨a, cap, rfl, hcap, hb, hc⟩ := h.zs
  clear h
  have HS := Lib.hid (sums_bd ps · (by omega) (fun j h => ⟨(hy j h (by omega)).hb, (hy j h (by omega)).hb'⟩))
  have HP := Lib.hid hp
  have hple : ps.length ≤ zs.length := by omega
  have hple' : zs.length ≤ ps.length := by omega
  clear hp
  go_enter Try.func33, Try.ntmps33
  go_wp2_with fail
  go_loopw [5] (fun i wr => ∃ k : Nat, k ≤ ps.length ∧ i = .int .i64 k ∧ Bk wr w.heap.size 51 ((sums ps k).map (Value.int .i64)) ∧ Below w.heap.size w wr) (fun i _ => zs.length - (intOf i).toNat)
  case atStart => exact ⟨0, Nat.zero_le _, rfl, heap_alloc_new w _, (Below.refl _ _).alloc (Nat.le_refl _) _⟩
  case round =>
    obtain ⟨k, hk, rfl, hbk, hbw⟩ := hrel
    by_cases hlt : k < ps.length
    · obtain ⟨b, o, rfl, hcell⟩ := hc k (by omega)
      have hcell' := (hbw.cell (p := ⟨b, o + k, none⟩) (lt_of_cell hcell)).trans hcell
      clear hcell
      have hlt2 : k < zs.length := by omega
      have hz := hy k hlt hlt2
      have hs1 := HS.out k ps[k].1
      rw [List.getD_eq_getElem?_getD] at hs1
      have hz1 := hz.hb
      have hz2 := hz.hb'
      have hz3 := hz.ha
      have hcl := (hbk.cell ps[k].1).trans (sums_cells _ (sums_len ps k) _ hz3)
      have hfr := hbk.frozen ps[k].1
      go_wp2_with (go_at_call 40; refine (parts_ref_yes _ _ _ _ _ hz).mono ?_; rintro e w1 ⟨rfl, rfl⟩)
      go_roundw
      case rel => exact ⟨k + 1, by omega, by go_num, by rw [sums_step ps k hlt]; exact hbk.set_ _ _, hbw.setCell (Nat.le_refl _) _⟩
      case measure => simp [intOf]; omega
    · obtain rfl : k = ps.length := by omega
      have HB := Lib.hid (sums_bd ps ps.length (by omega) (fun j h => ⟨(hy j h (by omega)).hb, (hy j h (by omega)).hb'⟩))
      clear HS
      have HL := Lib.hid (sums_len ps ps.length)
      generalize hSS : sums ps ps.length = S at *
      have HSS := Lib.hid hSS
      clear hSS hc hy
      have hsz : w.heap.size < wr.heap.size := hbk.lt
      go_wp2_with fail
      go_loopw [9, 10] (fun v i w2 => ∃ k : Nat, k ≤ 64 ∧ i = .int .i64 k ∧ (∀ j, j < k → InR (S.getD j 0)) ∧ OwnV (w.heap.size + 1) 25 w2 v (outOf S k) ∧ Bk w2 w.heap.size 51 (S.map (Value.int .i64)) ∧ Below w.heap.size w w2) (fun _ i _ => 64 - (intOf i).toNat)
      case atStart => exact ⟨0, Nat.zero_le _, rfl, fun j h => by omega, OwnV.nil _ _ _, hbk, hbw⟩
      case round =>
        obtain ⟨k, hk, rfl, hall, hown, hbk2, hb2⟩ := hrel
        have HA := Lib.hid hall
        have hsz2 := Nat.succ_le_of_lt hbk2.lt
        clear hall
        by_cases hlt : k < 64
        · have hg := HB.out k
          have hcl := (hbk2.cell k).trans (sums_cells S HL.out k hlt)
          rw [List.getD_eq_getElem?_getD] at hg hcl
          by_cases h1 : S[k]?.getD 0 < -1048575
          · go_wp2_with fail
            go_ret2
            exact .inl ⟨inR_not hlt (.inl h1), rfl, hb2⟩
          · by_cases h2 : 1048575 < S[k]?.getD 0
            · go_wp2_with fail
              go_ret2
              exact .inl ⟨inR_not hlt (.inr h2), rfl, hb2⟩
            · by_cases h3 : S[k]?.getD 0 = 0
              · have h3a : (S[k]?.getD 0 != 0) = false := by simpa using h3
                have H3 := Lib.hid h3
                clear h3
                go_wp2_with fail
                go_roundw
                case rel => exact ⟨k + 1, by omega, by go_num, inR_step HA.out (by omega) (by omega), by rw [outOf_zero H3.out]; exact hown, hbk2, hb2⟩
                case measure => simp [intOf]; omega
              · have h3a : (S[k]?.getD 0 != 0) = true := by simpa using h3
                have hol := outOf_len S k
                go_wp2_with (at_builtin; refine wpList_appZ rfl (.tmp 56) (.tmp 64) rfl (w.heap.size + 1) _ (outOf S k) rfl (hown.alloc _) _ (cx (S[k]?.getD 0) k) rfl rfl (RdV.one _ _ _) (by omega) (Nat.le_trans hsz2 (by simp)) ?_; intro v3 w3 hown3 hg3)
                go_roundw
                have HR := (⟨k + 1, by omega, by go_num, inR_step HA.out (by omega) (by omega), by rw [outOf_more h3]; exact hown3, (hbk2.alloc _).grown hg3 (fun e => by have := ((World.ownsRow.lt hown) _ e.symm).1; omega), (hb2.alloc hb2.size _).grown hg3 (Nat.le_trans hb2.size (by simp)) (fun q hq => by have := ((World.ownsRow.lt hown) q hq).1; omega)⟩ : ∃ q : Nat, q ≤ 64 ∧ Value.int .i64 ((k : Int) + 1) = .int .i64 q ∧ (∀ j, j < q → InR (S.getD j 0)) ∧ OwnV (w.heap.size + 1) 25 w3 v3 (outOf S q) ∧ Bk w3 w.heap.size 51 (S.map (Value.int .i64)) ∧ Below w.heap.size w w3)
                case rel => first | exact HR | ((repeat apply Exists.intro); exact ⟨HR, rfl, rfl, rfl, rfl⟩)
                case measure => simp [intOf]; omega
        · obtain rfl : k = 64 := by omega
          go_wp2_with fail
          go_ret2
          exact .inr ⟨HA.out, _, rfl, OwnV.mono_ hown (Nat.le_succ _), hb2⟩
end Go.Proofs.Ytadnijagechkcaa
