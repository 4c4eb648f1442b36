/- The law PathOrder. -/
import Derived.Test.YtadnijagechkcaaO
namespace Go.Proofs.Ytadnijagechkcaa
open Go.RowKit

/-- A call in a world behind draws that answers v. -/
def Ans (f : FuncId) (args : Array Value) (w : World) (v : Value) : Prop := ∀ n, Calls Try.prog f args (w.drewN n) fun e w' => e = .returned v ∧ ∃ m, w' = w.drewN m
theorem ans_qt {f : FuncId} {args : Array Value} {w : World} {v : Value} (h : ∀ n, Calls Try.prog f args (w.drewN n) fun e w' => e = .returned v ∧ Qt (w.drewN n) w') : Ans f args w v :=
  fun n => (h n).mono fun _ _ ⟨he, m, hm⟩ => ⟨he, n + m, by rw [hm, World.drewN_drewN]⟩
theorem ans_eq {f : FuncId} {args : Array Value} {w : World} {v : Value} (h : ∀ n, Calls Try.prog f args (w.drewN n) fun e w' => e = .returned v ∧ w.drewN n = w') : Ans f args w v :=
  fun n => (h n).mono fun _ _ ⟨he, hm⟩ => ⟨he, n, hm.symm⟩

theorem ans_go {f : FuncId} {args : Array Value} {w : World} {v : Value} (h : Hid (Ans f args w v)) (n : Nat) : Calls Try.prog f args (w.drewN n) fun e w' => e = .returned v ∧ ∃ m, w' = w.drewN m := h n

structure OrdFacts (a b c a' rp rq : Int) (same wpq wpr : Bool) : Prop where
  e1 : a' = -a
  e2 : same = (a == 0)
  ba : -1 ≤ a ∧ a ≤ 1
  bb : -1 ≤ b ∧ b ≤ 1
  bc : -1 ≤ c ∧ c ≤ 1
  t1 : a ≤ 0 → b ≤ 0 → c ≤ 0
  t2 : a < 0 → b ≤ 0 → c < 0
  t3 : wpq = true → a ≤ 0
  t4 : wpq = true → wpr = false → rp < 0 → rq < 0

theorem ord_facts {p q r : List Int} (h : ordOK p q r = true) : OrdFacts (cmpL p q) (cmpL q r) (cmpL p r) (cmpL q p) (cmpL r p) (cmpL r q) (decide (p = q)) (decide (com p q = p.length)) (decide (com p r = p.length)) := by
  simp only [ordOK, Bool.and_eq_true, Bool.not_eq_true', decide_eq_true_eq, beq_iff_eq] at h
  obtain ⟨⟨⟨⟨⟨h1, h2⟩, ⟨⟨h3, h4⟩, h5⟩⟩, h6⟩, h7⟩, h8⟩ := h
  refine ⟨h1, ?_, h3, h4, h5, fun x y => ?_, fun x y => ?_, fun x => ?_, fun x y z => ?_⟩
  · rw [← h2]; rfl
  · simp only [x, y, decide_true, Bool.true_and, decide_eq_false_iff_not] at h6; omega
  · simp only [x, y, decide_true, Bool.true_and, decide_eq_false_iff_not] at h7; omega
  · rw [x, Bool.true_and] at h8
    have := (Bool.or_eq_false_iff.1 h8).1
    simp only [decide_eq_false_iff_not] at this
    omega
  · rw [x, Bool.true_and] at h8
    have := (Bool.or_eq_false_iff.1 h8).2
    simp only [y, z, decide_true, Bool.not_false, Bool.true_and, decide_eq_false_iff_not] at this
    omega

def Holds0 (w : World) (e : Ending) (w' : World) : Prop := e = .returned (.bool true) ∧ ∃ n, Below w.heap.size (w.drewN n) w'

set_option maxHeartbeats 6400000 in
theorem order_aux (v u x : Value) (lv lu lx : Nat) (a0 a1 a2 : Option Addr) (c0 c1 c2 : Nat) (w : World) (n0 : Nat) (a b c rp rq : Int) (wpq wpr : Bool) (k : Int) (hk : (k == (lv : Int)) = wpq)
    (ev : v = .slice a0 lv c0) (eu : u = .slice a1 lu c1) (ex : x = .slice a2 lx c2) (hlv : lv ≤ 100) (hlu : lu ≤ 100) (hlx : lx ≤ 100)
    (k1 : Hid (Ans 26 #[v, u] w (.int .i64 a))) (k2 : Hid (Ans 26 #[u, x] w (.int .i64 b))) (k3 : Hid (Ans 26 #[v, x] w (.int .i64 c)))
    (k4 : Hid (Ans 26 #[u, v] w (.int .i64 (-a)))) (k5 : Hid (Ans 26 #[x, v] w (.int .i64 rp))) (k6 : Hid (Ans 26 #[x, u] w (.int .i64 rq)))
    (k7 : Hid (Ans 20 #[v, u] w (.bool (a == 0)))) (k8 : Hid (Ans 22 #[v, u] w (.bool wpq))) (k9 : Hid (Ans 22 #[v, x] w (.bool wpr)))
    (k10 : Hid (Ans 24 #[v, u] w (.int .i64 k)))
    (ba : -1 ≤ a) (ba' : a ≤ 1) (t1 : a ≤ 0 → b ≤ 0 → c ≤ 0) (t2 : a < 0 → b ≤ 0 → c < 0) (t3 : wpq = true → a ≤ 0) (t4 : wpq = true → wpr = false → rp < 0 → rq < 0) :
    Calls Try.prog 8 #[v, u, x] (w.drewN n0) (Holds0 w) := by
  subst ev eu ex
  have hcase : (0 < a ∧ wpq = false) ∨ ((a ≤ 0 ∧ 0 < b ∨ (a ≤ 0 ∧ b ≤ 0 ∧ c ≤ 0 ∧ ¬ a < 0) ∨ (a < 0 ∧ a ≤ 0 ∧ b ≤ 0 ∧ c ≤ 0 ∧ c < 0)) ∧ (wpq = false ∨ (wpq = true ∧ (wpr = true ∨ (wpr = false ∧ ¬ rp < 0) ∨ (wpr = false ∧ rp < 0 ∧ rq < 0))))) := by
    cases wpq <;> cases wpr <;> simp only [true_implies, Bool.true_eq_false, false_implies, Bool.false_eq_true, and_true, and_false, or_false, false_or, true_and, false_and] at t3 t4 ⊢
    all_goals (try clear hk)
    all_goals (by_cases q1 : a ≤ 0 <;> by_cases q2 : b ≤ 0 <;> by_cases q3 : a < 0 <;> by_cases q4 : rp < 0)
    all_goals (try have z1 := t1 (by assumption) (by assumption))
    all_goals (try have z2 := t2 (by assumption) (by assumption))
    all_goals (try have z3 := t4 (by assumption))
    all_goals omega
  clear t1 t2 t3 t4
  rcases hcase with ⟨ha, rfl⟩ | ⟨⟨ha, hb⟩ | ⟨ha, hb, hc, hna⟩ | ⟨hna, ha, hb, hc, hc'⟩, rfl | ⟨rfl, rfl | ⟨rfl, hr⟩ | ⟨rfl, hr, hr'⟩⟩⟩
  all_goals
    go_enter Try.func8, Try.ntmps8
    go_wp2_with (first
      | ((with_reducible refine (ans_go k1 _).mono ?_); rintro e w1 ⟨rfl, n1, rfl⟩)
      | ((with_reducible refine (ans_go k2 _).mono ?_); rintro e w1 ⟨rfl, n1, rfl⟩)
      | ((with_reducible refine (ans_go k3 _).mono ?_); rintro e w1 ⟨rfl, n1, rfl⟩)
      | ((with_reducible refine (ans_go k4 _).mono ?_); rintro e w1 ⟨rfl, n1, rfl⟩)
      | ((with_reducible refine (ans_go k5 _).mono ?_); rintro e w1 ⟨rfl, n1, rfl⟩)
      | ((with_reducible refine (ans_go k6 _).mono ?_); rintro e w1 ⟨rfl, n1, rfl⟩)
      | ((with_reducible refine (ans_go k7 _).mono ?_); rintro e w1 ⟨rfl, n1, rfl⟩)
      | ((with_reducible refine (ans_go k8 _).mono ?_); rintro e w1 ⟨rfl, n1, rfl⟩)
      | ((with_reducible refine (ans_go k9 _).mono ?_); rintro e w1 ⟨rfl, n1, rfl⟩)
      | ((with_reducible refine (ans_go k10 _).mono ?_); rintro e w1 ⟨rfl, n1, rfl⟩)
      | (go_at_call 12; refine (works_any _).mono ?_; rintro e w9 ⟨rfl, hb9⟩))
    all_goals
      go_ret
      exact ⟨rfl, _, hb9⟩

theorem lawOrder (v u x : Value) (p q r : List Int) (w : World) (hv : Rd w v p) (hu : Rd w u q) (hx : Rd w x r) (hp : p.length ≤ 100) (hq : q.length ≤ 100) (hr : r.length ≤ 100) (ho : ordOK p q r = true) :
    Calls Try.prog 8 #[v, u, x] w (Holds1 w) := by
  have F := ord_facts ho
  have ⟨a0, c0, ev, _⟩ := hv
  have ⟨a1, c1, eu, _⟩ := hu
  have ⟨a2, c2, ex, _⟩ := hx
  have h := order_aux v u x p.length q.length r.length a0 a1 a2 c0 c1 c2 w 0 (cmpL p q) (cmpL q r) (cmpL p r) (cmpL r p) (cmpL r q) (decide (com p q = p.length)) (decide (com p r = p.length)) (com p q)
    (by rw [Bool.eq_iff_iff]; simp; omega) ev eu ex hp hq hr
    (Lib.hid (ans_eq fun n => compare_any _ _ _ _ _ (hv.drewN n) (hu.drewN n))) (Lib.hid (ans_eq fun n => compare_any _ _ _ _ _ (hu.drewN n) (hx.drewN n))) (Lib.hid (ans_eq fun n => compare_any _ _ _ _ _ (hv.drewN n) (hx.drewN n)))
    (Lib.hid (ans_eq fun n => by rw [← F.e1]; exact compare_any _ _ _ _ _ (hu.drewN n) (hv.drewN n))) (Lib.hid (ans_eq fun n => compare_any _ _ _ _ _ (hx.drewN n) (hv.drewN n))) (Lib.hid (ans_eq fun n => compare_any _ _ _ _ _ (hx.drewN n) (hu.drewN n)))
    (Lib.hid (ans_qt fun n => by rw [← F.e2]; exact same_any _ _ _ _ _ (hv.drewN n) (hu.drewN n))) (Lib.hid (ans_qt fun n => within_any _ _ _ _ _ (hv.drewN n) (hu.drewN n))) (Lib.hid (ans_qt fun n => within_any _ _ _ _ _ (hv.drewN n) (hx.drewN n)))
    (Lib.hid (ans_qt fun n => common_any _ _ _ _ _ (hv.drewN n) (hu.drewN n)))
    F.ba.1 F.ba.2 F.t1 F.t2 F.t3 F.t4
  exact h.mono fun e w' ⟨he, n, hb⟩ => ⟨he, (below_drewN (Below.refl _ _) n).trans hb⟩
end Go.Proofs.Ytadnijagechkcaa
