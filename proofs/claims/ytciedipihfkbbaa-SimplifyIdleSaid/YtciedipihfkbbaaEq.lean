/- What may be made fewer; rows of one's own; bare operations. -/
import Derived.Test.YtciedipihfkbbaaEp
namespace Go.Proofs.Ytciedipihfkbbaa
open Go.RowKit

def busyB (o : OpV) : Bool := formedB o && !idleB o

theorem busy_any (v : Value) (o : OpV) (w : World) (h : RdO w v o) :
    Calls Try.prog 33 #[v] w fun e w' => e = .returned (.bool (busyB o)) ∧ Below w.heap.size w w' := by
  obtain ⟨p, t, q, rfl, h1, h2, h3, hF⟩ := h
  have H1 := Lib.hid (Held.new h1 h2 h3 hF)
  clear h1 h2 h3 hF
  have HL := Lib.hid (show busyB o = (formedB o && !idleB o) from rfl)
  unfold OpV.at_
  go_enter Try.func33, Try.ntmps33
  go_wp2_with fail
  go_at_call 26
  refine (formed_any _ _ _ H1.out.op).mono ?_
  rintro e w1 ⟨rfl, hb1⟩
  have H2 := Lib.hid (H1.out.next hb1)
  clear hb1
  obtain ⟨e0, e1, e2, e3, e4, e5, e6, e7, e8, e9, e10⟩ := H2.out.box.c
  by_cases c1 : formedB o = true
  · rw [c1] at HL ⊢
    go_wp2_with fail
    go_at_call 9
    refine (idle_any _ _ _ H2.out.op).mono ?_
    rintro e w3 ⟨rfl, hb3⟩
    have H3 := Lib.hid (H2.out.next hb3)
    clear hb3
    go_wp2_with fail
    go_ret
    exact ⟨ret_bool (by rw [HL.out]; simp), H3.out.bel⟩
  · rw [Bool.not_eq_true] at c1
    rw [c1] at HL ⊢
    go_wp2_with fail
    go_ret
    exact ⟨ret_bool (by rw [HL.out]; simp), H2.out.bel⟩

set_option maxHeartbeats 400000 in
theorem someI_any (v : Value) (l : List Int) (w : World) (h : Rd w v l) (hl : l.length ≤ 100000) :
    Calls Try.prog 55 #[v] w (GivesRow l w) := by
  go_enter Try.func55, Try.ntmps55
  go_wp2_with (at_builtin; refine wpList_appI rfl (.const (.slice none 0 0)) (.tmp 3) rfl w.heap.size _ [] rfl (Own.nil _ _) _ l rfl h (by simp; omega) (by simp) ?_; intro v1 w1 hown1 hg1 hat1)
  go_ret
  exact ⟨_, rfl, by simpa using hown1, below_app (Below.refl _ _) (Own.nil w.heap.size w) hg1 (by simp) (Nat.le_refl _)⟩

theorem RdP.rdc {w : World} {v : Value} {l : List Pc} (h : RdP w v l) : Rdc w 3 v l.length (PcCells l) := by
  obtain ⟨a, cap, rfl, h1, h2, h3, h4⟩ := h
  refine ⟨PcCells_len l, a, cap, rfl, h1, h2, h3, fun j u hu => ?_⟩
  have hj : j < l.length * 3 := by rw [← PcCells_len]; exact (List.getElem?_eq_some_iff.1 hu).1
  obtain ⟨b, o, rfl, c1, c2, c3, -⟩ := h4 (j / 3) (by omega)
  obtain ⟨d1, d2, d3⟩ := PcCells_at l (j / 3) (by omega)
  refine ⟨b, o, rfl, ?_⟩
  have hm : j = j / 3 * 3 ∨ j = j / 3 * 3 + 1 ∨ j = j / 3 * 3 + 2 := by omega
  rcases hm with e | e | e <;> rw [e] at hu ⊢
  · rw [d1] at hu; exact c1.trans hu
  · rw [d2] at hu; exact (show w.cell? ⟨b, o + (j / 3 * 3 + 1), none⟩ = _ from c2).trans hu
  · rw [d3] at hu; exact (show w.cell? ⟨b, o + (j / 3 * 3 + 2), none⟩ = _ from c3).trans hu

set_option maxHeartbeats 400000 in
theorem someP_any (v : Value) (l : List Pc) (w : World) (h : RdP w v l) (hl : l.length ≤ 100000) :
    Calls Try.prog 56 #[v] w (GivesP l w) := by
  go_enter Try.func56, Try.ntmps56
  go_wp2_with (at_builtin; refine wpList_appP rfl (.const (.slice none 0 0)) (.tmp 3) rfl w.heap.size _ [] rfl (OwnP.nil _ _) _ l rfl h.rdc (by simp; omega) (by simp) ?_; intro v1 w1 hown1 hg1 hat1)
  go_ret
  exact ⟨_, rfl, by simpa using hown1, (Below.refl _ _).grown hg1 (by simp) fun k hk => (World.ownsRow.lt (OwnP.nil w.heap.size w) k hk).1⟩
end Go.Proofs.Ytciedipihfkbbaa
