/- Contracts: Between. -/
import Derived.Test.YtadnijagechkcaaG
namespace Go.Proofs.Ytadnijagechkcaa
open Go.RowKit

/-- Two rows as long as each other part at one place alone. -/
structure DiffAt (l m : List Int) (n : Nat) : Prop where
  len : l.length = m.length
  lt : n < l.length
  lt' : n < m.length
  ne : l[n] ≠ m[n]
  eq : ∀ j (h : j < l.length) (h' : j < m.length), j ≠ n → l[j] = m[j]

theorem DiffAt.isCom {l m : List Int} {n : Nat} (h : DiffAt l m n) : com l m = n :=
  com_is l m n (Nat.le_of_lt h.lt) (Nat.le_of_lt h.lt') (fun j h1 h2 h3 => h.eq j h1 h2 (by omega)) (fun _ _ => h.ne)
theorem DiffAt.drop {l m : List Int} {n : Nat} (h : DiffAt l m n) : com (l.drop (n + 1)) (m.drop (n + 1)) = l.length - n - 1 := by
  have h1 := h.len
  refine com_is _ _ _ (by simp; omega) (by simp; omega) (fun j h2 h3 h4 => ?_) (fun h2 => by simp at h2; omega)
  rw [List.getElem_drop, List.getElem_drop]
  exact h.eq _ _ _ (by omega)
theorem diffAt_of {l m : List Int} (hl : l.length = m.length) (hn : com l m < l.length) (hd : com (l.drop (com l m + 1)) (m.drop (com l m + 1)) = l.length - com l m - 1) : DiffAt l m (com l m) := by
  refine ⟨hl, hn, by omega, com_stop l m hn (by omega), fun j h h' hj => ?_⟩
  by_cases hlt : j < com l m
  · exact com_alike l m j h h' hlt
  · have hs : j = com l m + 1 + (j - com l m - 1) := by omega
    have := com_alike (l.drop (com l m + 1)) (m.drop (com l m + 1)) (j - com l m - 1) (by simp; omega) (by simp; omega) (by omega)
    rw [List.getElem_drop, List.getElem_drop] at this
    simpa only [← hs] using this

def GivesZ (re im : Nat) (t : Bool) (w : World) (e : Ending) (w' : World) : Prop := e = .returned (.tuple #[.complex .f64 re im, .bool t]) ∧ Qt w w'

theorem may_of (l : List Int) (h : mayB l = true) : l.length ≤ 64 := ((mayB_all l).1 h).1

set_option maxHeartbeats 800000 in
theorem between_may (v u : Value) (l m : List Int) (w : World) (h : Rd w v l) (h' : Rd w u m) (hno : l.length ≠ m.length ∨ mayB l = false ∨ mayB m = false) :
    Calls Try.prog 28 #[v, u] w (GivesZ 0 0 false w) := by
  have Hv := Lib.hid h
  have Hu := Lib.hid h'
  obtain ⟨a, cap, rfl, hcap, hb, hn, hc⟩ := h
  obtain ⟨a', cap', rfl, hcap', hb', hn', hc'⟩ := h'
  clear hc hn hc' hn'
  by_cases hlen : l.length = m.length
  · have hl0 : ((l.length : Int) != m.length) = false := by rw [hlen]; simp
    have hl1 : (l.length != m.length) = false := by rw [hlen]; simp
    have hno : mayB l = false ∨ mayB m = false := by simpa [hlen] using hno
    clear hlen
    cases h1 : mayB l
    · clear hno
      go_enter Try.func28, Try.ntmps28
      go_wp2_with (go_at_call 13; refine (may_any _ _ _ Hv.out).mono ?_; rintro e w1 ⟨rfl, rfl⟩)
      go_ret2
      exact ⟨rfl, Qt.refl _⟩
    · have h2 : mayB m = false := by simpa [h1] using hno
      clear hno
      go_enter Try.func28, Try.ntmps28
      go_wp2_with fail
      refine (may_any _ _ _ Hv.out).mono ?_
      rintro e w1 ⟨rfl, rfl⟩
      go_wp2_with fail
      refine (may_any _ _ _ Hu.out).mono ?_
      rintro e w1 ⟨rfl, rfl⟩
      go_wp2_with fail
      go_ret2
      exact ⟨rfl, Qt.refl _⟩
  · have hl0 : ((l.length : Int) != m.length) = true := by simpa using (by omega : ¬ (l.length : Int) = m.length)
    have hl1 : (l.length != m.length) = true := by simpa using hlen
    clear hno
    go_enter Try.func28, Try.ntmps28
    go_wp2_with fail
    go_ret2
    exact ⟨rfl, Qt.refl _⟩

set_option maxHeartbeats 800000 in
theorem between_ref_may (v u : Value) (l m : List Int) (w : World) (h : Rd w v l) (h' : Rd w u m) (hno : l.length ≠ m.length ∨ mayB l = false ∨ mayB m = false) :
    Calls Try.prog 29 #[v, u] w (GivesZ 0 0 false w) := by
  have Hv := Lib.hid h
  have Hu := Lib.hid h'
  obtain ⟨a, cap, rfl, hcap, hb, hn, hc⟩ := h
  obtain ⟨a', cap', rfl, hcap', hb', hn', hc'⟩ := h'
  clear hc hn hc' hn'
  cases h1 : mayB l
  · clear hno
    go_enter Try.func29, Try.ntmps29
    go_wp2_with (go_at_call 14; refine (may_ref _ _ _ Hv.out).mono ?_; rintro e w1 ⟨rfl, n1, rfl⟩)
    go_ret2
    exact ⟨rfl, (by first | exact ⟨_, rfl⟩ | exact Qt.drewN ⟨_, rfl⟩ _)⟩
  · cases h2 : mayB m
    · clear hno
      go_enter Try.func29, Try.ntmps29
      go_wp2_with fail
      refine (may_ref _ _ _ Hv.out).mono ?_
      rintro e w1 ⟨rfl, n1, rfl⟩
      go_wp2_with fail
      refine (may_ref _ _ _ (Hu.out.drewN _)).mono ?_
      rintro e w1 ⟨rfl, n2, rfl⟩
      go_wp2_with fail
      go_ret2
      exact ⟨rfl, (by first | exact ⟨_, rfl⟩ | exact Qt.drewN ⟨_, rfl⟩ _)⟩
    · have hlen : ¬ l.length = m.length := by simpa [h1, h2] using hno
      have hl0 : ((l.length : Int) != m.length) = true := by simpa using (by omega : ¬ (l.length : Int) = m.length)
      have hl1 : (l.length != m.length) = true := by simpa using hlen
      clear hno
      go_enter Try.func29, Try.ntmps29
      go_wp2_with fail
      refine (may_ref _ _ _ Hv.out).mono ?_
      rintro e w1 ⟨rfl, n1, rfl⟩
      go_wp2_with fail
      refine (may_ref _ _ _ (Hu.out.drewN _)).mono ?_
      rintro e w1 ⟨rfl, n2, rfl⟩
      go_wp2_with fail
      go_ret2
      exact ⟨rfl, (by first | exact ⟨_, rfl⟩ | exact Qt.drewN ⟨_, rfl⟩ _)⟩

/-- What the loop of Between knows at place k: no place below parts, or one alone does, and that is 'at'. -/
def BetInv (l m : List Int) (k : Nat) (i : Int) : Prop :=
  (i = -1 ∧ ∀ j (h : j < l.length) (h' : j < m.length), j < k → l[j] = m[j]) ∨
  ∃ n : Nat, i = n ∧ n < k ∧ n < l.length ∧ (∀ (h : n < l.length) (h' : n < m.length), l[n] ≠ m[n]) ∧ ∀ j (h : j < l.length) (h' : j < m.length), j < k → j ≠ n → l[j] = m[j]

theorem bet_step {l m : List Int} {k : Nat} {i : Int} (h : BetInv l m k i) (h1 : k < l.length) (h2 : k < m.length) (e : l[k] = m[k]) : BetInv l m (k + 1) i := by
  rcases h with ⟨hi, h⟩ | ⟨n, hi, hn, hl, hne, h⟩
  · exact .inl ⟨hi, com_lt h h1 h2 e⟩
  · refine .inr ⟨n, hi, by omega, hl, hne, fun j a b hj hjn => ?_⟩
    by_cases ej : j = k
    · subst ej; exact e
    · exact h j a b (by omega) hjn
theorem bet_first {l m : List Int} {k : Nat} {i : Int} (h : BetInv l m k i) (h1 : k < l.length) (h2 : k < m.length) (e : l[k] ≠ m[k]) (hi : i < 0) : BetInv l m (k + 1) k := by
  rcases h with ⟨_, h⟩ | ⟨n, rfl, _⟩
  · refine .inr ⟨k, rfl, by omega, h1, fun _ _ => e, fun j a b hj hjn => h j a b (by omega)⟩
  · omega
theorem bet_two {l m : List Int} {k : Nat} {i : Int} (h : BetInv l m k i) (h1 : k < l.length) (h2 : k < m.length) (e : l[k] ≠ m[k]) (hi : 0 ≤ i) (n' : Nat) : ¬ DiffAt l m n' := by
  intro hd
  rcases h with ⟨hi', h⟩ | ⟨n, rfl, hn, hl, hne, h⟩
  · omega
  · have hlm := hd.len
    have e1 : n' = n := Classical.byContradiction fun hh => hne hl (by omega) (hd.eq n hl (by omega) (by omega))
    have e2 : n' = k := Classical.byContradiction fun hh => e (hd.eq k h1 h2 (by omega))
    omega
theorem bet_none {l m : List Int} {i : Int} (hi : i < 0) (h : BetInv l m l.length i) (n : Nat) : ¬ DiffAt l m n := by
  intro hd
  rcases h with ⟨_, h⟩ | ⟨n, rfl, _⟩
  · exact hd.ne (h n hd.lt hd.lt' hd.lt)
  · omega
theorem bet_one {l m : List Int} {i : Int} (hl : l.length = m.length) (hi : 0 ≤ i) (h : BetInv l m l.length i) : ∃ n : Nat, i = n ∧ DiffAt l m n := by
  rcases h with ⟨hi', _⟩ | ⟨n, rfl, hn, hl', hne, h⟩
  · omega
  · exact ⟨n, rfl, hl, hn, by omega, hne hn (by omega), fun j a b hj => h j a b (by omega) hj⟩

/-- What Between answers of two paths that may be, as long as each other. -/
def BetPost (l m : List Int) (w : World) (e : Ending) (w' : World) : Prop :=
  ((∀ n, ¬ DiffAt l m n) ∧ e = .returned (.tuple #[.complex .f64 0 0, .bool false]) ∧ Qt w w') ∨
  ∃ n : Nat, DiffAt l m n ∧ e = .returned (.tuple #[.complex .f64 (floatOfInt .f64 (m.getD n 0 - l.getD n 0)) (floatOfInt .f64 n), .bool true]) ∧ Qt w w'

set_option maxHeartbeats 1600000 in
theorem between_any (v u : Value) (l m : List Int) (w : World) (h : Rd w v l) (h' : Rd w u m) (hlen : l.length = m.length) (h1 : mayB l = true) (h2 : mayB m = true) :
    Calls Try.prog 28 #[v, u] w (BetPost l m w) := by
  have Hv := Lib.hid h
  have Hu := Lib.hid h'
  obtain ⟨a, cap, rfl, hcap, hb, hn, hc⟩ := h
  obtain ⟨a', cap', rfl, hcap', hb', hn', hc'⟩ := h'
  clear hn hn'
  have hl0 : ((l.length : Int) != m.length) = false := by rw [hlen]; simp
  have hl1 : (l.length != m.length) = false := by rw [hlen]; simp
  have HL := Lib.hid hlen
  have HM1 := Lib.hid ((mayB_all l).1 h1).2
  have HM2 := Lib.hid ((mayB_all m).1 h2).2
  have hle : l.length ≤ m.length := by omega
  have h64 := may_of l h1
  clear hlen
  go_enter Try.func28, Try.ntmps28
  go_wp2_with fail
  refine (may_any _ _ _ Hv.out).mono ?_
  rintro e w1 ⟨rfl, rfl⟩
  go_wp2_with fail
  refine (may_any _ _ _ Hu.out).mono ?_
  rintro e w1 ⟨rfl, rfl⟩
  go_wp2_with fail
  go_loop [26, 6] (fun i x => ∃ (k : Nat) (q : Int), k ≤ l.length ∧ i = .int .i64 k ∧ x = .int .i64 q ∧ -1 ≤ q ∧ q ≤ 64 ∧ BetInv l m k q) (fun i _ => l.length - (intOf i).toNat)
  case atStart => exact ⟨0, -1, Nat.zero_le _, rfl, rfl, by omega, by omega, .inl ⟨rfl, fun j _ _ hj => by omega⟩⟩
  case round =>
    obtain ⟨k, q, hk, rfl, rfl, hq1, hq2, hinv⟩ := hrel
    have HI := Lib.hid hinv
    clear hinv
    by_cases hlt : k < l.length
    · have hlt' : k < m.length := by omega
      obtain ⟨b, o, rfl, hcell⟩ := hc k hlt
      obtain ⟨b', o', rfl, hcell'⟩ := hc' k hlt'
      by_cases he : l[k] = m[k]
      · have hd : decide (l[k] = m[k]) = true := by simpa using he
        have hd' : (l[k] == m[k]) = true := by simpa using he
        have HE := Lib.hid he
        clear he
        go_wp2_with fail
        go_round
        case rel => exact ⟨k + 1, q, by omega, by go_num, rfl, hq1, hq2, bet_step HI.out hlt hlt' HE.out⟩
        case measure => simp [intOf]; omega
      · have hd : decide (l[k] = m[k]) = false := by simpa using he
        have hd' : (l[k] == m[k]) = false := by simpa using he
        by_cases hq : 0 ≤ q
        · go_wp2_with fail
          go_ret2
          exact .inl ⟨bet_two HI.out hlt hlt' he hq, rfl, Qt.refl _⟩
        · go_wp2_with fail
          go_round
          case rel => exact ⟨k + 1, k, by omega, by go_num, rfl, by omega, by omega, bet_first HI.out hlt hlt' he (by omega)⟩
          case measure => simp [intOf]; omega
    · obtain rfl : k = l.length := by omega
      by_cases hq : 0 ≤ q
      · obtain ⟨n, rfl, hdf⟩ := bet_one HL.out hq HI.out
        obtain ⟨b, o, rfl, hcell⟩ := hc n hdf.lt
        obtain ⟨b', o', rfl, hcell'⟩ := hc' n hdf.lt'
        have hlt := hdf.lt
        have hlt' := hdf.lt'
        have g1 := HM1.out n hlt
        have g2 := HM2.out n hlt'
        go_wp2_with fail
        go_quiet (fail)
        go_wp2_with fail
        go_ret2
        refine .inr ⟨n, hdf, ?_, (by first | exact ⟨_, rfl⟩ | exact Qt.drewN ⟨_, rfl⟩ _)⟩
        simp [List.getD, hlt, hlt']
      · go_wp2_with fail
        go_ret2
        exact .inl ⟨bet_none (by omega) HI.out, rfl, Qt.refl _⟩
end Go.Proofs.Ytadnijagechkcaa
