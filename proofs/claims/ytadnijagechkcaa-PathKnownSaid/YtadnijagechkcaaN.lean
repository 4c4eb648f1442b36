/- The chapter's examples hold. -/
import Derived.Test.YtadnijagechkcaaL
namespace Go.Proofs.Ytadnijagechkcaa
open Go.RowKit

theorem Rd.lit (w : World) (l : List Int) (t : TypeId) (n m : Nat) (hn : w.heap.size = n) (hm : l.length = m) (hl : l.length ≤ 100000) : Rd (w.alloc (.cells (l.map (Value.int .i64)).toArray t)) (.slice (some ⟨n, 0, none⟩) m m) l := by
  subst hn hm
  refine ⟨_, l.length, rfl, Nat.le_refl _, by omega, fun h => by simp at h, fun j hj => ⟨_, _, rfl, ?_⟩⟩
  have := (Bk.new w t (l.map (Value.int .i64))).cell (0 + j)
  rw [this]
  simp [hj]

theorem RdV.lit (w : World) (l : List Value) (t : TypeId) (n m : Nat) (hn : w.heap.size = n) (hm : l.length = m) (hl : l.length ≤ 100000) : RdV (w.alloc (.cells l.toArray t)) (.slice (some ⟨n, 0, none⟩) m m) l := by
  subst hn hm
  refine ⟨by omega, _, l.length, rfl, Nat.le_refl _, by omega, fun h => by simp at h, fun j u hj => ⟨_, _, rfl, ?_⟩⟩
  have := (Bk.new w t l).cell (0 + j)
  rw [this]
  simpa using hj

def zyesB (re im a : Nat) (b : Int) : Bool :=
  geB im 0 && leB im 4634063279075885056 && eqB (truncB im) im && decide (floatToIntVal .f64 im .i64 = some (a : Int)) && eqB (floatOfInt .f64 a) im &&
  geB re 13920626439612268544 && leB re 4697254402757492736 && eqB (truncB re) re && decide (floatToIntVal .f64 re .i64 = some b) && eqB (floatOfInt .f64 b) re &&
  decide (a < 64) && decide (-1048575 ≤ b) && decide (b ≤ 1048575)
theorem zyes_of {re im a : Nat} {b : Int} (h : zyesB re im a b = true) : Zyes re im a b := by
  simp only [zyesB, Bool.and_eq_true, decide_eq_true_eq] at h
  obtain ⟨⟨⟨⟨⟨⟨⟨⟨⟨⟨⟨⟨h1, h2⟩, h3⟩, h4⟩, h5⟩, h6⟩, h7⟩, h8⟩, h9⟩, h10⟩, h11⟩, h12⟩, h13⟩ := h
  exact ⟨h1, h2, h3, h4, h5, h6, h7, h8, h9, h10, h11, h12, h13⟩

theorem z_m2_1 : Zyes 13835058055282163712 4607182418800017408 1 (-2) := zyes_of (by kernel_rfl)
theorem z_1_0 : Zyes 4607182418800017408 0 0 1 := zyes_of (by kernel_rfl)
theorem z_2_3 : Zyes 4611686018427387904 4613937818241073152 3 2 := zyes_of (by kernel_rfl)
theorem z_m1_0 : Zyes 13830554455654793216 0 0 (-1) := zyes_of (by kernel_rfl)

def exZ : List (Nat × Nat) := [(4607182418800017408, 0), (4611686018427387904, 4613937818241073152), (13830554455654793216, 0)]
def exP : List (Nat × Int) := [(0, 1), (3, 2), (0, -1)]
theorem ex_out : outOf (sums exP 3) 64 = [.complex .f64 4611686018427387904 4613937818241073152] := by kernel_rfl
theorem ex_in : ∀ j, j < 64 → InR ((sums exP 3).getD j 0) := by unfold InR; decide +kernel

theorem cmp1 : cmpL [0, 2] [0, 2, 1] = -1 := by decide
theorem cmp2 : cmpL [0, 2, 9] [0, 3] = -1 := by decide
theorem cmp3 : cmpL [1] [0, 5] = 1 := by decide
theorem wi1 : decide (com [0, 2] [0, 2, 1] = List.length [(0 : Int), 2]) = true := by decide
theorem wi2 : decide (com [0, 2] [0, 3] = List.length [(0 : Int), 2]) = false := by decide

theorem bNext {w w1 w2 : World} (h : Below w.heap.size w w1) (k : Below w1.heap.size w1 w2) : Below w.heap.size w w2 := h.trans (k.mono h.size)
theorem bAl {w w1 : World} (h : Below w.heap.size w w1) (o : Obj) : Below w.heap.size w (w1.alloc o) := h.alloc h.size o
theorem bQt {w w1 w2 : World} (h : Below w.heap.size w w1) (k : Qt w1 w2) : Below w.heap.size w w2 := h.trans (k.below _)

theorem bet_ex {w w' : World} {e : Ending} (h : BetPost [4, 7, 1] [4, 5, 1] w e w') : e = .returned (.tuple #[.complex .f64 13835058055282163712 4607182418800017408, .bool true]) ∧ Qt w w' := by
  have hd1 : DiffAt [4, 7, 1] [4, 5, 1] 1 := diffAt_of rfl (by decide) (by decide)
  rcases h with ⟨h, _⟩ | ⟨n, hd, rfl, hq⟩
  · exact absurd hd1 (h 1)
  · obtain rfl : n = 1 := by rw [← hd.isCom, ← hd1.isCom]
    exact ⟨by kernel_rfl, hq⟩
theorem sum_ex {w w' : World} {e : Ending} (h : SumPost (sums exP exP.length) w e w') : ∃ r, e = .returned (.tuple #[r, .int .i64 0]) ∧ OwnV w.heap.size 25 w' r [.complex .f64 4611686018427387904 4613937818241073152] ∧ Below w.heap.size w w' := by
  rcases h with ⟨⟨j, hj, hn⟩, _⟩ | ⟨_, h⟩
  · exact absurd (ex_in j hj) hn
  · rw [show sums exP exP.length = sums exP 3 from rfl, ex_out] at h
    exact h
theorem exZ_yes : ∀ j (h : j < exP.length) (h' : j < exZ.length), Zyes exZ[j].1 exZ[j].2 exP[j].1 exP[j].2 := by
  intro j h h'
  match j, h with
  | 0, _ => exact z_1_0
  | 1, _ => exact z_2_3
  | 2, _ => exact z_m1_0

theorem OwnV.open1 {base : Nat} {e : TypeId} {w : World} {v x : Value} (h : OwnV base e w v [x]) : ∃ g cap, v = .slice (some ⟨g, 0, none⟩) 1 cap ∧ g < w.heap.size ∧ w.cell? ⟨g, 0, none⟩ = some x := by
  have h' := h
  unfold OwnV at h'
  rcases h'.2 with ⟨_, hl⟩ | ⟨g, cap, cur, rfl, hb, hh, hl, hm, _⟩
  · simp at hl
  · exact ⟨g, cap, rfl, (Array.getElem?_eq_some_iff.1 hh).1, by rw [h'.cellAt 0 (by simp)]; rfl⟩
theorem eq_z23 : ((FloatKind.f64.format.order 4611686018427387904 4611686018427387904 == some Ordering.eq) && (FloatKind.f64.format.order 4613937818241073152 4613937818241073152 == some Ordering.eq)) = true := by kernel_rfl
theorem eq_zm21 : ((FloatKind.f64.format.order 13835058055282163712 13835058055282163712 == some Ordering.eq) && (FloatKind.f64.format.order 4607182418800017408 4607182418800017408 == some Ordering.eq)) = true := by kernel_rfl

set_option maxHeartbeats 1600000 in
theorem works_any (w : World) : Calls Try.prog 12 #[] w fun e w' => e = .returned (.bool true) ∧ Below w.heap.size w w' := by
  have k23 := eq_z23
  have k21 := eq_zm21
  go_enter Try.func12, Try.ntmps12
  go_wp2_with fail
  refine (shift_ok _ [4, 7, 1] _ _ _ _ _ z_m2_1 (Rd.lit w [4, 7, 1] 3 _ 3 rfl rfl (by simp)) (by decide) (by simp) (by decide) (by decide)).mono ?_
  rintro e w1 ⟨r1, rfl, ho1, hb1⟩
  have HB1 := bNext (bAl (Below.refl w.heap.size w) _) hb1
  have HO1 := ho1.rd

  clear hb1 ho1
  go_wp2_with fail
  refine (between_any _ _ [4, 7, 1] [4, 5, 1] _ ((Rd.lit w1 [4, 7, 1] 3 _ 3 rfl rfl (by simp)).alloc _) (Rd.lit (w1.alloc _) [4, 5, 1] 3 _ 3 (by simp) rfl (by simp)) rfl (by decide) (by decide)).mono ?_
  rintro e w2 hp
  obtain ⟨rfl, hq2⟩ := bet_ex hp
  have HB2 := bQt (bAl (bAl HB1 _) _) hq2
  have HO2 := ((HO1.alloc _).alloc _).qt hq2
  clear hp hq2 HO1 HB1
  go_wp2_with fail
  refine (sum_any _ exZ exP _ (RdV.lit w2 (exZ.map zval) 25 _ 3 rfl rfl (by simp [exZ])) (by decide) rfl exZ_yes).mono ?_
  rintro e w3 hp
  obtain ⟨r3, rfl, ho3, hb3⟩ := sum_ex hp
  have HB3 := bNext (bAl HB2 _) hb3
  have HO3 := (HO2.alloc _).below hb3
  obtain ⟨g3, c3, rfl, hg3, hc3⟩ := ho3.open1
  clear hp hb3 ho3 HO2 HB2
  go_wp2_with fail
  refine (sameInts_any _ _ [4, 5, 1] [4, 5, 1] _ (HO3.alloc _) (Rd.lit w3 [4, 5, 1] 3 _ 3 rfl rfl (by simp))).mono ?_
  rintro e w4 ⟨rfl, hq4⟩
  have HB4 := bQt (bAl HB3 _) hq4
  have hc4 : w4.cell? ⟨g3, 0, none⟩ = some (.complex .f64 4611686018427387904 4613937818241073152) := by
    obtain ⟨n4, rfl⟩ := hq4
    exact (((Below.refl _ _).alloc (Nat.le_refl _) _).cell (p := ⟨g3, 0, none⟩) hg3).trans hc3
  clear hq4 HO3 HB3 hc3
  go_wp2_with fail
  refine (compare_any _ _ [0, 2] [0, 2, 1] _ ((Rd.lit w4 [0, 2] 3 _ 2 rfl rfl (by simp)).alloc _) (Rd.lit (w4.alloc _) [0, 2, 1] 3 _ 3 (by simp) rfl (by simp))).mono ?_
  rintro e w5 ⟨rfl, he5⟩
  have HB5 : Below w.heap.size w w5 := by rw [← he5]; exact bAl (bAl HB4 _) _
  clear he5 HB4 hc4
  rw [cmp1]
  go_wp2_with fail
  refine (compare_any _ _ [0, 2, 9] [0, 3] _ ((Rd.lit w5 [0, 2, 9] 3 _ 3 rfl rfl (by simp)).alloc _) (Rd.lit (w5.alloc _) [0, 3] 3 _ 2 (by simp) rfl (by simp))).mono ?_
  rintro e w6 ⟨rfl, he6⟩
  have HB6 : Below w.heap.size w w6 := by rw [← he6]; exact bAl (bAl HB5 _) _
  clear he6 HB5
  rw [cmp2]
  go_wp2_with fail
  refine (compare_any _ _ [1] [0, 5] _ ((Rd.lit w6 [1] 3 _ 1 rfl rfl (by simp)).alloc _) (Rd.lit (w6.alloc _) [0, 5] 3 _ 2 (by simp) rfl (by simp))).mono ?_
  rintro e w7 ⟨rfl, he7⟩
  have HB7 : Below w.heap.size w w7 := by rw [← he7]; exact bAl (bAl HB6 _) _
  clear he7 HB6
  rw [cmp3]
  go_wp2_with fail
  refine (within_any _ _ [0, 2] [0, 2, 1] _ ((Rd.lit w7 [0, 2] 3 _ 2 rfl rfl (by simp)).alloc _) (Rd.lit (w7.alloc _) [0, 2, 1] 3 _ 3 (by simp) rfl (by simp))).mono ?_
  rintro e w8 ⟨rfl, hq8⟩
  have HB8 := bQt (bAl (bAl HB7 _) _) hq8
  clear hq8 HB7
  rw [wi1]
  go_wp2_with fail
  refine (within_any _ _ [0, 2] [0, 3] _ ((Rd.lit w8 [0, 2] 3 _ 2 rfl rfl (by simp)).alloc _) (Rd.lit (w8.alloc _) [0, 3] 3 _ 2 (by simp) rfl (by simp))).mono ?_
  rintro e w9 ⟨rfl, hq9⟩
  have HB9 := bQt (bAl (bAl HB8 _) _) hq9
  clear hq9 HB8
  rw [wi2]
  go_wp2_with fail
  refine (may_any _ [] _ ⟨none, 0, rfl, by simp, by omega, fun _ => rfl, fun j hj => by simp at hj⟩).mono ?_
  rintro e w10 ⟨rfl, rfl⟩
  rw [show mayB [] = true from rfl]
  go_wp2_with fail
  go_ret
  exact ⟨rfl, HB9⟩
end Go.Proofs.Ytadnijagechkcaa
