/- Contracts: a shift's parts. -/
import Derived.Test.YtadnijagechkcaaD
import Derived.Laws.Cover2
import Derived.Laws.Cover3
import Derived.Laws.FloatArith
import Derived.Laws.ComplexArith
namespace Go.Proofs.Ytadnijagechkcaa
open Go.RowKit

def geB (x y : Nat) : Bool := FloatKind.f64.format.order x y == some .gt || FloatKind.f64.format.order x y == some .eq
def leB (x y : Nat) : Bool := FloatKind.f64.format.order x y == some .lt || FloatKind.f64.format.order x y == some .eq
def eqB (x y : Nat) : Bool := FloatKind.f64.format.order x y == some .eq
def truncB (x : Nat) : Nat := FloatKind.f64.encode ((FloatKind.f64.decode x).integral .zero)

theorem order_nan {x y : Nat} {s : Bool} {t : Nat} (h : FloatKind.f64.decode x = .nan s t) : FloatKind.f64.format.order x y = none := by
  show ((FloatKind.f64.format.read x).order (FloatKind.f64.format.read y)) = none
  rw [show FloatKind.f64.format.read x = .nan s t from h]
  rfl
theorem geB_nan {x y : Nat} {s : Bool} {t : Nat} (h : FloatKind.f64.decode x = .nan s t) : geB x y = false := by
  unfold geB; rw [order_nan h]; rfl

theorem findTrunc : Extern.find Try.f46 = some (Extern.MathFloor.toIntegral "math.archTrunc" .zero) := by kernel_rfl
theorem toIntegral_is (x : Nat) : Extern.MathFloor.toIntegral "math.archTrunc" .zero #[.float .f64 x] =
    (match FloatKind.f64.decode x with
    | .nan s t =>
      if FloatKind.f64.format.quiet t = t then pure (.float .f64 x) else do
      let kept ← choose (.extern "math.Floor,Ceil,Trunc,RoundToEven.signallingNaN kept" 2)
      pure (.float .f64 (if kept == 1 then x else FloatKind.f64.encode (.nan s (FloatKind.f64.format.quiet t))))
    | d => pure (.float .f64 (FloatKind.f64.encode (d.integral .zero)))) := rfl
theorem run_trunc (x y : Nat) (w : World) (h : geB x y = true) : (Extern.MathFloor.toIntegral "math.archTrunc" .zero #[.float .f64 x]).run Try.prog w = .ok (.float .f64 (truncB x)) w := by
  rw [toIntegral_is]
  unfold truncB
  cases hd : FloatKind.f64.decode x with
  | nan s t => rw [geB_nan hd] at h; cases h
  | number s m p => rfl
  | infinity s => rfl
theorem call_trunc (x y : Nat) (w : World) (h : geB x y = true) : (callFunc 46 #[.float .f64 x]).run Try.prog w = .ok (.value (.float .f64 (truncB x))) w := by
  refine (run_callFunc_extern (fn := Try.f46) (by kernel_rfl) (by kernel_rfl) (by kernel_rfl) (by kernel_rfl) findTrunc _ _).trans ?_
  rw [run_trunc x y w h]
  rfl

set_option maxHeartbeats 400000 in
theorem trunc_any (x y : Nat) (w : World) (h : geB x y = true) : Calls Try.prog 44 #[.float .f64 x] w fun e w' => e = .returned (.float .f64 (truncB x)) ∧ w = w' := by
  have k := fun w => call_trunc x y w h
  clear h
  go_enter Try.func44, Try.ntmps44
  go_wp2_with (fail)
  go_ret
  exact ⟨rfl, rfl⟩

set_option maxHeartbeats 400000 in
theorem whole_any (x lo hi : Nat) (w : World) : Calls Try.prog 43 #[.float .f64 x, .float .f64 lo, .float .f64 hi] w fun e w' => e = .returned (.bool (geB x lo && leB x hi && eqB (truncB x) x)) ∧ w = w' := by
  cases h1 : geB x lo
  · have k1 := h1
    unfold geB at k1
    go_enter Try.func43, Try.ntmps43
    go_wp2_with (fail)
    go_ret
    exact ⟨ret_bool (by simp), rfl⟩
  · have k1 := h1
    unfold geB at k1
    cases h2 : leB x hi
    · have k2 := h2
      unfold leB at k2
      go_enter Try.func43, Try.ntmps43
      go_wp2_with (fail)
      go_ret
      exact ⟨ret_bool (by simp), rfl⟩
    · have k2 := h2
      unfold leB at k2
      have H1 := Lib.hid h1
      clear h1 h2
      go_enter Try.func43, Try.ntmps43
      go_wp2_with (go_at_call 44; refine (trunc_any _ _ _ H1.out).mono ?_; rintro e w1 ⟨rfl, rfl⟩)
      go_ret
      exact ⟨ret_bool (by unfold eqB; simp), rfl⟩

/-- A shift that may be: its place a, and the growth b. -/
structure Zyes (re im : Nat) (a : Nat) (b : Int) : Prop where
  i1 : geB im 0 = true
  i2 : leB im 4634063279075885056 = true
  i3 : eqB (truncB im) im = true
  i4 : floatToIntVal .f64 im .i64 = some (a : Int)
  i5 : eqB (floatOfInt .f64 a) im = true
  r1 : geB re 13920626439612268544 = true
  r2 : leB re 4697254402757492736 = true
  r3 : eqB (truncB re) re = true
  r4 : floatToIntVal .f64 re .i64 = some b
  r5 : eqB (floatOfInt .f64 b) re = true
  ha : a < 64
  hb : -1048575 ≤ b
  hb' : b ≤ 1048575

/-- A shift that may not be: the tests as the code asks them, one behind the other; and as the reference does. -/
structure Zno (re im : Nat) : Prop where
  own : ((geB im 0 && leB im 4634063279075885056 && eqB (truncB im) im) && (geB re 13920626439612268544 && leB re 4697254402757492736 && eqB (truncB re) re)) = false
  ref : (geB im 0 && leB im 4634063279075885056 && geB re 13920626439612268544 && leB re 4697254402757492736) = false ∨
    ∃ a b : Int, geB im 0 = true ∧ leB im 4634063279075885056 = true ∧ geB re 13920626439612268544 = true ∧ leB re 4697254402757492736 = true ∧
      floatToIntVal .f64 im .i64 = some a ∧ floatToIntVal .f64 re .i64 = some b ∧ (eqB (floatOfInt .f64 a) im && eqB (floatOfInt .f64 b) re) = false

set_option maxHeartbeats 400000 in
theorem parts_yes (re im : Nat) (a : Nat) (b : Int) (w : World) (h : Zyes re im a b) :
    Calls Try.prog 39 #[.complex .f64 re im] w fun e w' => e = .returned (.tuple #[.int .i64 a, .int .i64 b, .bool true]) ∧ w = w' := by
  have e1 : (geB im 0 && leB im 4634063279075885056 && eqB (truncB im) im) = true := by rw [h.i1, h.i2, h.i3]; rfl
  have HI := Lib.hid e1
  have e2 : (geB re 13920626439612268544 && leB re 4697254402757492736 && eqB (truncB re) re) = true := by rw [h.r1, h.r2, h.r3]; rfl
  have HR := Lib.hid e2
  clear e1 e2
  have k1 := fun w => run_convert_float_int (P := Try.prog) w 24 3 .f64 .i64 im a (by kernel_rfl) Try.underlying3 h.i4
  have k2 := fun w => run_convert_float_int (P := Try.prog) w 24 3 .f64 .i64 re b (by kernel_rfl) Try.underlying3 h.r4
  clear h
  go_enter Try.func39, Try.ntmps39
  go_wp2_with (go_at_call 43; refine (whole_any _ _ _ _).mono ?_; rintro e w1 ⟨rfl, rfl⟩; first | rw [HI.out] | rw [HR.out])
  go_ret3
  exact ⟨rfl, rfl⟩

set_option maxHeartbeats 400000 in
theorem parts_no (re im : Nat) (w : World) (h : Zno re im) :
    Calls Try.prog 39 #[.complex .f64 re im] w fun e w' => e = .returned (.tuple #[.int .i64 0, .int .i64 0, .bool false]) ∧ w = w' := by
  have h1 := h.own
  clear h
  generalize hp : (geB im 0 && leB im 4634063279075885056 && eqB (truncB im) im) = p at h1
  generalize hq : (geB re 13920626439612268544 && leB re 4697254402757492736 && eqB (truncB re) re) = q at h1
  have HI := Lib.hid hp
  have HR := Lib.hid hq
  clear hp hq
  cases p
  · go_enter Try.func39, Try.ntmps39
    go_wp2_with (go_at_call 43; refine (whole_any _ _ _ _).mono ?_; rintro e w1 ⟨rfl, rfl⟩; first | rw [HI.out] | rw [HR.out])
    go_ret3
    exact ⟨rfl, rfl⟩
  · obtain rfl : q = false := by simpa using h1
    go_enter Try.func39, Try.ntmps39
    go_wp2_with (go_at_call 43; refine (whole_any _ _ _ _).mono ?_; rintro e w1 ⟨rfl, rfl⟩; first | rw [HI.out] | rw [HR.out])
    go_ret3
    exact ⟨rfl, rfl⟩

set_option maxHeartbeats 400000 in
theorem parts_ref_yes (re im : Nat) (a : Nat) (b : Int) (w : World) (h : Zyes re im a b) :
    Calls Try.prog 40 #[.complex .f64 re im] w fun e w' => e = .returned (.tuple #[.int .i64 a, .int .i64 b, .bool true]) ∧ w = w' := by
  have k1 := fun w => run_convert_float_int (P := Try.prog) w 24 3 .f64 .i64 im a (by kernel_rfl) Try.underlying3 h.i4
  have k2 := fun w => run_convert_float_int (P := Try.prog) w 24 3 .f64 .i64 re b (by kernel_rfl) Try.underlying3 h.r4
  have e1 := h.i1
  have e2 := h.i2
  have e3 := h.r1
  have e4 := h.r2
  have e5 := h.i5
  have e6 := h.r5
  unfold geB leB eqB at *
  have e5' : (FloatKind.f64.format.order (floatOfInt FloatKind.f64 ↑a) im != some Ordering.eq) = false := by simpa using e5
  have e6' : (FloatKind.f64.format.order (floatOfInt FloatKind.f64 b) re != some Ordering.eq) = false := by simpa using e6
  clear h e5 e6
  go_enter Try.func40, Try.ntmps40
  go_wp2_with (fail)
  go_ret3
  exact ⟨rfl, rfl⟩

set_option maxHeartbeats 800000 in
theorem parts_ref_out (re im : Nat) (w : World) (h : (geB im 0 && leB im 4634063279075885056 && geB re 13920626439612268544 && leB re 4697254402757492736) = false) :
    Calls Try.prog 40 #[.complex .f64 re im] w fun e w' => e = .returned (.tuple #[.int .i64 0, .int .i64 0, .bool false]) ∧ w = w' := by
  cases h1 : geB im 0
  · unfold geB at h1
    clear h
    go_enter Try.func40, Try.ntmps40
    go_wp2_with (fail)
    go_ret3
    exact ⟨rfl, rfl⟩
  · cases h2 : leB im 4634063279075885056
    · unfold geB at h1
      unfold leB at h2
      clear h
      go_enter Try.func40, Try.ntmps40
      go_wp2_with (fail)
      go_ret3
      exact ⟨rfl, rfl⟩
    · cases h3 : geB re 13920626439612268544
      · unfold geB at h1 h3
        unfold leB at h2
        clear h
        go_enter Try.func40, Try.ntmps40
        go_wp2_with (fail)
        go_ret3
        exact ⟨rfl, rfl⟩
      · have h4 : leB re 4697254402757492736 = false := by simpa [h1, h2, h3] using h
        unfold geB at h1 h3
        unfold leB at h2 h4
        clear h
        go_enter Try.func40, Try.ntmps40
        go_wp2_with (fail)
        go_ret3
        exact ⟨rfl, rfl⟩

set_option maxHeartbeats 800000 in
theorem parts_ref_no (re im : Nat) (w : World) (h : Zno re im) :
    Calls Try.prog 40 #[.complex .f64 re im] w fun e w' => e = .returned (.tuple #[.int .i64 0, .int .i64 0, .bool false]) ∧ w = w' := by
  rcases h.ref with h | ⟨a, b, e1, e2, e3, e4, e5, e6, e7⟩
  · exact parts_ref_out re im w h
  · have k1 := fun w => run_convert_float_int (P := Try.prog) w 24 3 .f64 .i64 im a (by kernel_rfl) Try.underlying3 e5
    have k2 := fun w => run_convert_float_int (P := Try.prog) w 24 3 .f64 .i64 re b (by kernel_rfl) Try.underlying3 e6
    unfold geB leB eqB at *
    clear h e5 e6
    cases h5 : FloatKind.f64.format.order (floatOfInt FloatKind.f64 a) im == some Ordering.eq
    · have e5' : (FloatKind.f64.format.order (floatOfInt FloatKind.f64 ↑a) im != some Ordering.eq) = true := by simpa using h5
      clear h5 e7
      go_enter Try.func40, Try.ntmps40
      go_wp2_with (fail)
      go_ret3
      exact ⟨rfl, rfl⟩
    · have e5' : (FloatKind.f64.format.order (floatOfInt FloatKind.f64 ↑a) im != some Ordering.eq) = false := by simpa using h5
      have e6' : (FloatKind.f64.format.order (floatOfInt FloatKind.f64 b) re != some Ordering.eq) = true := by
        rw [h5, Bool.true_and] at e7; simpa using e7
      clear h5 e7
      go_enter Try.func40, Try.ntmps40
      go_wp2_with (fail)
      go_ret3
      exact ⟨rfl, rfl⟩
end Go.Proofs.Ytadnijagechkcaa
