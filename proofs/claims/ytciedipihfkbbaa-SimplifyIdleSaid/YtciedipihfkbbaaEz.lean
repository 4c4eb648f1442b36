/- SimplifyIdle: its walk. -/
import Derived.Test.YtciedipihfkbbaaEx
namespace Go.Proofs.Ytciedipihfkbbaa
open Go.RowKit

set_option maxHeartbeats 3200000 in
set_option maxRecDepth 100000 in
theorem lawIdle_any (v : Value) (o : OpV) (w : World) (h : RdO w v o) :
    Calls Try.prog 3 #[v] w fun e w' => e = .returned (.bool true) ∧ Below w.heap.size w w' := by
  obtain ⟨p, t, q, rfl, h1, h2, h3, hF⟩ := h
  have hH0 := (Held.new h1 h2 h3 hF).next (Below.refl _ _).drew
  have HLL : Hid (∀ W, RdO W (o.at_ p t q) o → Calls Try.prog 8 #[o.at_ p t q] W fun e w' => e = .returned (.bool (lawLight o)) ∧ Below W.heap.size W w') := Lib.hid fun W hW => lawLight_any _ o W hW
  obtain ⟨k0, k1, k2, k3, k4, k5, k6, k7, k8, k9, k10⟩ := hH0.box.c
  clear h1 h2 h3 hF
  unfold OpV.at_ at HLL ⊢
  cases hL : lawLight o
  · rw [hL] at HLL
    clear hL
    go_enter Try.func3, Try.ntmps3
    go_wp2_with fail
    go_region_with (first | (go_at_call 8; refine (HLL.out _ (Held.op (by with_reducible assumption))).mono ?_; rintro e w2 ⟨rfl, hb2⟩; have hH2 := Held.next (by with_reducible assumption) hb2; obtain ⟨k20, k21, k22, k23, k24, k25, k26, k27, k28, k29, k210⟩ := hH2.box.c) | (go_at_call 9; refine (idle_any _ o _ (Held.op (by with_reducible assumption))).mono ?_; rintro e w3 ⟨rfl, hb3⟩; have hH3 := Held.next (by with_reducible assumption) hb3; obtain ⟨k30, k31, k32, k33, k34, k35, k36, k37, k38, k39, k310⟩ := hH3.box.c) | (go_at_call 10; refine (idle_ref _ o _ (Held.op (by with_reducible assumption))).mono ?_; rintro e w4 ⟨rfl, hb4⟩; have hH4 := Held.next (by with_reducible assumption) hb4; obtain ⟨k40, k41, k42, k43, k44, k45, k46, k47, k48, k49, k410⟩ := hH4.box.c) | (go_at_call 11; refine (works_any _).mono ?_; rintro e w5 ⟨rfl, hb5⟩; have hH5 := Held.next (by with_reducible assumption) hb5; obtain ⟨k50, k51, k52, k53, k54, k55, k56, k57, k58, k59, k510⟩ := hH5.box.c))
    all_goals
      go_wp2_with fail
      go_ret
      exact ⟨ret_bool (by simp), Held.bel (by with_reducible assumption)⟩
  · rw [hL] at HLL
    clear hL
    go_enter Try.func3, Try.ntmps3
    go_wp2_with fail
    go_region_held3 (fun w' => w'.cell? ⟨w.heap.size, 0, none⟩ = some (.int .u8 o.kind) ∧ w'.cell? ⟨w.heap.size, 1, none⟩ = some p ∧ w'.cell? ⟨w.heap.size, 2, none⟩ = some (.int .i64 o.gap) ∧ w'.cell? ⟨w.heap.size, 3, none⟩ = some t ∧ w'.cell? ⟨w.heap.size, 4, none⟩ = some (.int .u64 o.id) ∧ w'.cell? ⟨w.heap.size, 5, none⟩ = some (.bool o.leaf) ∧ w'.cell? ⟨w.heap.size, 6, none⟩ = some (.string o.label) ∧ w'.cell? ⟨w.heap.size, 7, none⟩ = some (.string o.key) ∧ w'.cell? ⟨w.heap.size, 8, none⟩ = some (.string o.val) ∧ w'.cell? ⟨w.heap.size, 9, none⟩ = some (.bool o.gone) ∧ w'.cell? ⟨w.heap.size, 10, none⟩ = some q)
      (first | (refine ⟨?_, ?_, ?_, ?_, ?_, ?_, ?_, ?_, ?_, ?_, ?_⟩ <;> with_reducible assumption) | go_keep)
      (first | (go_at_call 8; refine (HLL.out _ (Held.op (by with_reducible assumption))).mono ?_; rintro e w2 ⟨rfl, hb2⟩; have hH2 := Held.next (by with_reducible assumption) hb2; obtain ⟨k20, k21, k22, k23, k24, k25, k26, k27, k28, k29, k210⟩ := hH2.box.c) | (go_at_call 9; refine (idle_any _ o _ (Held.op (by with_reducible assumption))).mono ?_; rintro e w3 ⟨rfl, hb3⟩; have hH3 := Held.next (by with_reducible assumption) hb3; obtain ⟨k30, k31, k32, k33, k34, k35, k36, k37, k38, k39, k310⟩ := hH3.box.c) | (go_at_call 10; refine (idle_ref _ o _ (Held.op (by with_reducible assumption))).mono ?_; rintro e w4 ⟨rfl, hb4⟩; have hH4 := Held.next (by with_reducible assumption) hb4; obtain ⟨k40, k41, k42, k43, k44, k45, k46, k47, k48, k49, k410⟩ := hH4.box.c) | (go_at_call 11; refine (works_any _).mono ?_; rintro e w5 ⟨rfl, hb5⟩; have hH5 := Held.next (by with_reducible assumption) hb5; obtain ⟨k50, k51, k52, k53, k54, k55, k56, k57, k58, k59, k510⟩ := hH5.box.c))
    all_goals
      go_wp2_with fail
      go_ret
      exact ⟨ret_bool (by simp), Held.bel (by with_reducible assumption)⟩
end Go.Proofs.Ytciedipihfkbbaa
