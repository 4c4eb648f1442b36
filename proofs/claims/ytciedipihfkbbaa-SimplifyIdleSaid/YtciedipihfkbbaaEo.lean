/- Which operations are idle: the program's answer. -/
import Derived.Test.YtciedipihfkbbaaEn
namespace Go.Proofs.Ytciedipihfkbbaa
open Go.RowKit

def idleMove (o : OpV) : Bool := match o.path.getLast? with
  | none => false
  | some x => decide (o.path.dropLast = o.to) && (decide (o.gap = x) || decide (o.gap = x + 1))
def idleB (o : OpV) : Bool := formedB o && (if o.kind = 6 then decide ((normL o.pieces).length = 0) else if o.kind = 3 then idleMove o else false)
theorem idle_un {o : OpV} (h : formedB o = false) : idleB o = false := by simp [idleB, h]
theorem idle6 {o : OpV} (h : formedB o = true) (hk : o.kind = 6) : idleB o = decide ((normL o.pieces).length = 0) := by simp [idleB, h, hk]
theorem idle3 {o : OpV} (h : formedB o = true) (hk : o.kind = 3) : idleB o = idleMove o := by simp [idleB, h, hk]
theorem idle0 {o : OpV} (h6 : ¬ o.kind = 6) (h3 : ¬ o.kind = 3) : idleB o = false := by simp [idleB, h6, h3]
theorem move_none {o : OpV} (h : o.path = []) : idleMove o = false := by simp [idleMove, h]
theorem move_some {o : OpV} {l : List Int} {x : Int} (h : o.path = l ++ [x]) : idleMove o = (decide (l = o.to) && (decide (o.gap = x) || decide (o.gap = x + 1))) := by simp [idleMove, h]
theorem formed_path {o : OpV} (h : formedB o = true) : o.path.length ≤ 64 ∧ ∀ j (hj : j < o.path.length), 0 ≤ o.path[j] ∧ o.path[j] < 1048576 := by
  rw [formedB, Bool.and_eq_true] at h; exact (mayB_all _).1 h.1
theorem formed_right {o : OpV} (h : formedB o = true) (hk : o.kind = 6) : rightB o.pieces = true := by
  rw [formedB, Bool.and_eq_true, kind6 hk] at h; exact h.2
theorem last_form (l : List Int) : l = [] ∨ ∃ t x, l = t ++ [x] := by
  rcases List.eq_nil_or_concat l with h | ⟨t, x, h⟩
  · exact .inl h
  · exact .inr ⟨t, x, by simpa using h⟩

set_option maxHeartbeats 3200000 in
set_option maxRecDepth 100000 in
theorem idle_any (v : Value) (o : OpV) (w : World) (h : RdO w v o) :
    Calls Try.prog 9 #[v] w fun e w' => e = .returned (.bool (idleB o)) ∧ Below w.heap.size w w' := by
  obtain ⟨p, t, q, rfl, h1, h2, h3, hF⟩ := h
  have hF' := hF
  obtain ⟨k0, k1, g0, g1, l1, l2, l3⟩ := hF'
  have H1 := Lib.hid (Held.new h1 h2 h3 hF)
  obtain ⟨IB, hI⟩ : ∃ b, b = idleB o := ⟨_, rfl⟩
  rw [← hI]
  have HI := Lib.hid hI
  clear h1 h2 h3 hF hI
  unfold OpV.at_
  go_enter Try.func9, Try.ntmps9
  go_wp2_with fail
  go_at_call 26
  refine (formed_any _ _ _ H1.out.op).mono ?_
  rintro e w1 ⟨rfl, hb1⟩
  have H2 := Lib.hid (H1.out.next hb1)
  clear hb1
  obtain ⟨e0, e1, e2, e3, e4, e5, e6, e7, e8, e9, e10⟩ := H2.out.box.c
  cases c : formedB o
  · have HC := Lib.hid c
    clear c
    go_wp2_with fail
    go_ret
    exact ⟨ret_bool (by rw [HI.out, idle_un HC.out]), H2.out.bel⟩
  · have HC := Lib.hid c
    clear c
    by_cases hk : o.kind = 6
    · have HK := Lib.hid (idle6 HC.out hk)
      have HR := Lib.hid (formed_right HC.out hk)
      go_wp2_with fail
      go_at_call 27
      refine (Norm_any _ _ _ H2.out.pieces).mono ?_
      rw [HR.out]
      rintro e w3 ⟨r, rfl, ho, hb3⟩
      have HB3 := Lib.hid (bNext H2.out.bel hb3)
      obtain ⟨ra, rc, rfl⟩ := ho.form
      clear ho hb3
      go_wp2_with fail
      go_ret
      exact ⟨ret_bool (by rw [HI.out, HK.out, Bool.eq_iff_iff]; simp only [beq_iff_eq, decide_eq_true_eq]; omega), HB3.out⟩
    · by_cases hk3 : o.kind = 3
      · have HK := Lib.hid (idle3 HC.out hk3)
        have HP := Lib.hid (formed_path HC.out)
        rcases last_form o.path with hp | ⟨l, x, hp⟩
        · have HE := Lib.hid (move_none hp)
          have hpp := H2.out.path
          obtain ⟨pa, pc, rfl, -⟩ := hpp
          rw [hp] at e1
          have HPP := Lib.hid hp
          clear hp
          simp only [List.length_nil] at e1
          go_wp2_with fail
          go_at_call 28
          refine (parent_none _ _ _).mono ?_
          rintro e w3 ⟨rfl, rfl⟩
          go_wp2_with fail
          go_ret
          exact ⟨ret_bool (by rw [HI.out, HK.out, HE.out]), H2.out.bel⟩
        · have HE := Lib.hid (move_some hp)
          have hpp := H2.out.path
          have hlim := HP.out
          rw [hp] at hpp hlim
          have hx := hlim.2 l.length (by simp)
          simp only [List.getElem_concat_length] at hx
          have hll : l.length ≤ 100000 := by have := hlim.1; simp at this; omega
          have HPP := Lib.hid hpp
          have HQ := Lib.hid hp
          clear hp hpp hlim
          have hw : IntKind.i64.wrap (x + 1) = x + 1 := IntWalk.i64_in _ (by omega)
          go_wp2_with fail
          go_at_call 28
          refine (parent_some _ _ _ _ HPP.out hll).mono ?_
          rintro e w3 ⟨r, rfl, ho, hb3⟩
          have H3 := Lib.hid (H2.out.next hb3)
          have HO := Lib.hid ho
          clear ho hb3 e0 e1 e2 e3 e4 e5 e6 e7 e8 e9 e10
          obtain ⟨e0, e1, e2, e3, e4, e5, e6, e7, e8, e9, e10⟩ := H3.out.box.c
          go_wp2_with (go_at_call 29; refine (same_any _ _ _ _ _ HO.out.rd H3.out.to).mono ?_; rintro e w4 ⟨rfl, hq4⟩; have H4 := Lib.hid (H3.out.qt hq4); clear hq4 e0 e1 e2 e3 e4 e5 e6 e7 e8 e9 e10; obtain ⟨e0, e1, e2, e3, e4, e5, e6, e7, e8, e9, e10⟩ := H4.out.box.c)
          all_goals
            go_ret
            exact ⟨ret_bool (by rw [HI.out, HK.out, HE.out]; grind), H4.out.bel⟩
      · have HK := Lib.hid (idle0 hk hk3)
        go_wp2_with fail
        go_ret
        exact ⟨ret_bool (by rw [HI.out, HK.out]), H2.out.bel⟩
end Go.Proofs.Ytciedipihfkbbaa
