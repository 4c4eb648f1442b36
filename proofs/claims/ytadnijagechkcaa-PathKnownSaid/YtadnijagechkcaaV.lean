/- The closed statement: its first region. -/
import Derived.Test.YtadnijagechkcaaT
import Derived.Test.YtadnijagechkcaaU
import Derived.Deep.OwnRows
import Derived.Deep.RegionHeld3
namespace Go.Proofs.Ytadnijagechkcaa
open Go.RowKit

def PL : Nat → List Int
  | 0 => [0] | 1 => [1] | 2 => [0, 0] | 3 => [0, 2] | 4 => [0, 2, 1] | 5 => [0, 3] | 6 => [-1] | 7 => [1048575] | 8 => [1048576] | 9 => [0, 4611686018427387904]
  | 10 => [4, 7, 1] | 11 => [4, 5, 1] | 12 => [4, 5, 2] | 13 => List.replicate 64 0 | 14 => List.replicate 65 0 | _ => []
def PP : Nat → List Int
  | 0 => []
  | j + 1 => PL j
def RdRows (w : World) (v : Value) : Prop := ∃ vs : List Value, vs.length = 16 ∧ RdV w v vs ∧ ∀ j, j < 16 → Rd w (vs.getD j undef) (PP j)
def FF (i : Nat) (v : Value) (w : World) : Prop := if i < 15 then Rd w v (PL i) else RdRows w v

theorem RdRows.below {w w' : World} {v : Value} (h : RdRows w v) (hb : Below w.heap.size w w') : RdRows w' v := by
  obtain ⟨vs, h1, h2, h3⟩ := h
  exact ⟨vs, h1, RdV.below h2 hb, fun j hj => (h3 j hj).below hb⟩
theorem FF_below (i : Nat) (v : Value) (w w' : World) (h : FF i v w) (hb : Below w.heap.size w w') : FF i v w' := by
  unfold FF at *
  split at h
  · rename_i hi; rw [if_pos hi]; exact h.below hb
  · rename_i hi; rw [if_neg hi]; exact RdRows.below h hb

theorem Rd.made (w : World) (n : Nat) (hn : n ≤ 100000) : Rd (w.alloc (.cells (madeCells #[.int .i64 0] n) 3)) (.slice (some ⟨w.heap.size, 0, none⟩) n n) (List.replicate n 0) := by
  have h := Rd.lit w (List.replicate n 0) 3 _ n rfl (by simp) (by simpa using hn)
  have e : ((List.replicate n (0 : Int)).map (Value.int .i64)).toArray = madeCells #[.int .i64 0] n := by
    apply Array.ext'
    rw [toList_madeCells_one, List.map_replicate]
  rwa [e] at h
theorem makeI (n : Nat) (hn : n ≤ 1000) (w : World) : (Instr.makeSlice 22 (.int .i64 (n : Int)) (.int .i64 (n : Int))).run Try.prog w = .ok (.slice (some ⟨w.heap.size, 0, none⟩) n n) (w.alloc (.cells (madeCells #[.int .i64 0] n) 3)) :=
  run_make_row' 22 3 (.int .i64 0) 8 Try.underlying22 int_info rfl .i64 .i64 n (by omega) (by omega) w

/-! The shifts. -/
def NanBits (b : Nat) : Prop := ∃ s t, FloatKind.f64.decode b = .nan s t
theorem nan_bits (t : Nat) : NanBits (Question.cut (.nanBits .f64 0 0) t) := by
  refine ⟨(Question.cut (.nanBits .f64 0 0) t) / Ieee.double.signWeight % 2 == 1, (Question.cut (.nanBits .f64 0 0) t) % Ieee.double.signWeight - Ieee.double.infRung, ?_⟩
  have e1 : Ieee.double.signWeight = 9223372036854775808 := by decide
  have e2 : Ieee.double.infRung = 9218868437227405312 := by decide
  have e3 : Ieee.double.binade = 4503599627370496 := by decide
  show Ieee.double.read _ = _
  have hc : Question.cut (.nanBits .f64 0 0) t = (t % 2) * 9223372036854775808 + 9218868437227405312 + 1 + (t / 2) % 4503599627370495 := rfl
  rw [hc]
  have hq : t % 2 < 2 := by omega
  have hr : t / 2 % 4503599627370495 < 4503599627370495 := by omega
  generalize t % 2 = q at hq
  generalize t / 2 % 4503599627370495 = r at hr
  unfold Ieee.Format.read
  simp only [e1, e2, e3]
  have hm : (q * 9223372036854775808 + 9218868437227405312 + 1 + r) % 9223372036854775808 = 9218868437227405312 + 1 + r := by
    rcases (by omega : q = 0 ∨ q = 1) with rfl | rfl <;> omega
  rw [hm, if_neg (by omega), if_neg (by omega), if_neg (by omega)]

theorem run_nan (w : World) : ∃ b, NanBits b ∧ (binOp .quo 24 (.float .f64 0) (.float .f64 0)).run Try.prog w = .ok (.float .f64 b) w.drew := by
  refine ⟨_, nan_bits (w.tape w.drawn (.nanBits .f64 0 0)), ?_⟩
  have h : FloatKind.f64.format.div 0 0 = none := by kernel_rfl
  simp [binOp, Op.floatArith, h, choose, Sem.run, Question.forced]

/-- The shifts but for the two that are no numbers. -/
def Z0 : Nat → Nat × Nat
  | 0 => (0, 0) | 1 => (4607182418800017408, 0) | 2 => (13830554455654793216, 0) | 3 => (0, 4607182418800017408) | 4 => (13830554455654793216, 4607182418800017408)
  | 5 => (4607182418800017408, 4607182418800017408) | 6 => (13835058055282163712, 4607182418800017408) | 7 => (4602678819172646912, 0) | 8 => (0, 4602678819172646912)
  | 9 => (0, 13830554455654793216) | 10 => (0, 4634063279075885056) | 11 => (0, 4634204016564240384) | 12 => (4697254402757492736, 0) | 13 => (4697254411347427328, 0)
  | 14 => (13920626439612268544, 0) | 15 => (13920626448202203136, 0) | 16 => (9094988921128908188, 0) | 19 => (9218868437227405312, 0) | 20 => (0, 9218868437227405312)
  | 21 => (4607182418800017408, 4611686018427387904) | 22 => (4697254359807819776, 4607182418800017408) | _ => (0, 0)
def ZZ (b : Nat) (k : Nat) : Nat × Nat := if k = 17 then (b, 0) else if k = 18 then (0, b) else Z0 k
/-- The place and the growth of those that may be. -/
def ZP : Nat → Option (Nat × Int)
  | 0 => some (0, 0) | 1 => some (0, 1) | 2 => some (0, -1) | 3 => some (1, 0) | 4 => some (1, -1) | 5 => some (1, 1) | 6 => some (1, -2) | 10 => some (63, 0)
  | 12 => some (0, 1048575) | 14 => some (0, -1048575) | 21 => some (2, 1) | 22 => some (1, 1048570) | _ => none
def znoB (re im : Nat) : Bool :=
  !((geB im 0 && leB im 4634063279075885056 && eqB (truncB im) im) && (geB re 13920626439612268544 && leB re 4697254402757492736 && eqB (truncB re) re)) &&
  (!(geB im 0 && leB im 4634063279075885056 && geB re 13920626439612268544 && leB re 4697254402757492736) ||
    match floatToIntVal .f64 im .i64, floatToIntVal .f64 re .i64 with
    | some a, some b => geB im 0 && leB im 4634063279075885056 && geB re 13920626439612268544 && leB re 4697254402757492736 && !(eqB (floatOfInt .f64 a) im && eqB (floatOfInt .f64 b) re)
    | _, _ => false)
theorem zno_of {re im : Nat} (h : znoB re im = true) : Zno re im := by
  unfold znoB at h
  rw [Bool.and_eq_true, Bool.not_eq_true', Bool.or_eq_true, Bool.not_eq_true'] at h
  refine ⟨h.1, ?_⟩
  rcases h.2 with h | h
  · exact .inl h
  · split at h
    · rename_i a b h1 h2
      simp only [Bool.and_eq_true, Bool.not_eq_true'] at h
      exact .inr ⟨a, b, h.1.1.1.1, h.1.1.1.2, h.1.1.2, h.1.2, h1, h2, h.2⟩
    · cases h
def zkB (k : Nat) : Bool :=
  match ZP k with
  | some (a, b) => zyesB (Z0 k).1 (Z0 k).2 a b && zyesB (Op.negFloat .f64 (Z0 k).1) (Z0 k).2 a (-b) && ((FloatKind.f64.format.order (Z0 k).1 0 != some Ordering.eq) == !decide (b = 0))
  | none => decide (k = 17) || decide (k = 18) || znoB (Z0 k).1 (Z0 k).2
theorem zk_all : ∀ k, k < 23 → zkB k = true := by decide +kernel
def zpB (k j : Nat) : Bool :=
  match ZP k, ZP j with
  | some (a, _), some (a2, _) => (FloatKind.f64.format.order (Z0 k).2 (Z0 j).2 == some Ordering.eq) == decide (a = a2)
  | _, _ => true
theorem zp_all : ∀ k, k < 23 → ∀ j, j < 23 → zpB k j = true := by decide +kernel

theorem zno_nan_re {b : Nat} (h : NanBits b) : Zno b 0 := by
  obtain ⟨s, t, h⟩ := h
  have g := fun y => geB_nan (y := y) h
  exact ⟨by rw [g]; simp, .inl (by rw [g]; simp)⟩
theorem zno_nan_im {b : Nat} (h : NanBits b) : Zno 0 b := by
  obtain ⟨s, t, h⟩ := h
  have g := fun y => geB_nan (y := y) h
  exact ⟨by rw [g]; simp, .inl (by rw [g]; simp)⟩

theorem yes_unique {re im a a' : Nat} {b b' : Int} (h : Zyes re im a b) (h' : Zyes re im a' b') : a' = a ∧ b' = b := by
  have h1 := h.i4; have h2 := h'.i4; have h3 := h.r4; have h4 := h'.r4
  rw [h1] at h2; rw [h3] at h4
  injection h2 with h2; injection h4 with h4
  exact ⟨by omega, h4.symm⟩
theorem yes_no {re im a : Nat} {b : Int} (h : Zyes re im a b) (h' : Zno re im) : False := by
  have := h'.own
  rw [h.i1, h.i2, h.i3, h.r1, h.r2, h.r3] at this
  cases this

theorem zz_case {b : Nat} (hb : NanBits b) (k : Nat) (hk : k < 23) : (∃ a c, ZP k = some (a, c) ∧ ZZ b k = Z0 k ∧ Zyes (ZZ b k).1 (ZZ b k).2 a c) ∨ Zno (ZZ b k).1 (ZZ b k).2 := by
  have h := zk_all k hk
  unfold zkB at h
  by_cases h17 : k = 17
  · subst h17; exact .inr (zno_nan_re hb)
  · by_cases h18 : k = 18
    · subst h18; exact .inr (zno_nan_im hb)
    · have e : ZZ b k = Z0 k := by unfold ZZ; rw [if_neg h17, if_neg h18]
      cases hp : ZP k with
      | none =>
        rw [hp] at h
        simp only [h17, h18, decide_false, Bool.false_or] at h
        right; rw [e]; exact zno_of h
      | some p =>
        obtain ⟨a, c⟩ := p
        rw [hp] at h
        simp only [Bool.and_eq_true] at h
        left; exact ⟨a, c, rfl, e, by rw [e]; exact zyes_of h.1.1⟩
theorem zz_known {b : Nat} (hb : NanBits b) (k : Nat) (hk : k < 23) : Zknown (ZZ b k).1 (ZZ b k).2 := by
  rcases zz_case hb k hk with ⟨a, c, -, -, h⟩ | h
  · exact .inl ⟨a, c, h⟩
  · exact .inr h
theorem zz_pair {b : Nat} (hb : NanBits b) (k j : Nat) (hk : k < 23) (hj : j < 23) : Zpair (ZZ b k).1 (ZZ b k).2 (ZZ b j).1 (ZZ b j).2 := by
  have hkk := zk_all k hk
  have hpp := zp_all k hk j hj
  refine ⟨zz_known hb k hk, zz_known hb j hj, fun a c h => ?_, fun a c h => ?_, fun a c a2 c2 h h2 => ?_⟩
  · rcases zz_case hb k hk with ⟨a', c', e1, e2, h'⟩ | h'
    · obtain ⟨rfl, rfl⟩ := yes_unique h' h
      unfold zkB at hkk
      rw [e1] at hkk
      simp only [Bool.and_eq_true] at hkk
      rw [e2]
      exact zyes_of hkk.1.2
    · exact absurd h' (fun hh => yes_no h hh)
  · rcases zz_case hb k hk with ⟨a', c', e1, e2, h'⟩ | h'
    · obtain ⟨rfl, rfl⟩ := yes_unique h' h
      unfold zkB at hkk
      rw [e1] at hkk
      simp only [Bool.and_eq_true, beq_iff_eq] at hkk
      rw [e2]
      exact hkk.2
    · exact absurd h' (fun hh => yes_no h hh)
  · rcases zz_case hb k hk with ⟨a', c', e1, e2, h'⟩ | h'
    · rcases zz_case hb j hj with ⟨a3, c3, e3, e4, h3⟩ | h3
      · obtain ⟨rfl, rfl⟩ := yes_unique h' h
        obtain ⟨rfl, rfl⟩ := yes_unique h3 h2
        unfold zpB at hpp
        rw [e1, e3] at hpp
        simp only [beq_iff_eq] at hpp
        rw [e2, e4]
        exact hpp
      · exact absurd h3 (fun hh => yes_no h2 hh)
    · exact absurd h' (fun hh => yes_no h hh)

theorem ord_all : ∀ i, i < 16 → ∀ k, k < 16 → ordOK (PP i) (PP k) (PP ((i + k) % 16)) = true := by decide +kernel
theorem pp_len : ∀ i, i < 16 → (PP i).length ≤ 100 := by decide +kernel

end Go.Proofs.Ytadnijagechkcaa
