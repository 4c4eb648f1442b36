/- Contracts: Sum. -/
import Derived.Test.YtadnijagechkcaaI
import Derived.ScopeJumps
namespace Go.Proofs.Ytadnijagechkcaa
open Go.RowKit

/-- A scope with one label ahead, to which the run jumps at most once. -/
theorem wp_scope_fwd {P : Program} {a : Act} {w : World} {Q : Exit → Act → World → Prop} {c rest : Code} (l : Nat) (hf : findLabel c l = some rest)
    (h : c.wp P (Exit.jump l (fun a w => rest.wp P (Exit.noGoto Q) a w) Q) a w) : (Code.scope c).wp P Q a w :=
  wp_scope_jumps l _ (fun _ _ => 0) hf h fun _ _ hJ => wp_mono hJ fun e _ _ hq => by cases e <;> first | exact hq | exact hq.elim
theorem jump_ret {l : Nat} {J : Act → World → Prop} {Q : Exit → Act → World → Prop} {a : Act} {w : World} : Exit.jump l J Q .ret a w = Q .ret a w := rfl
theorem jump_goto {l : Nat} {J : Act → World → Prop} {Q : Exit → Act → World → Prop} {a : Act} {w : World} (h : J a w) : Exit.jump l J Q (.goto l) a w := ⟨rfl, h⟩

set_option maxHeartbeats 400000 in
set_option maxRecDepth 100000 in
theorem sum_long (a : Option Addr) (n cap : Nat) (w : World) (hcap : 64 < n) (hn : n ≤ 1000000) :
    Calls Try.prog 32 #[.slice a n cap] w (GivesErr 2 w) := by
  go_enter Try.func32, Try.ntmps32
  go_wp2_with fail
  refine wp_scope_fwd 0 rfl ?_
  go_wp2_with fail
  go_step3
  refine ⟨rfl, ?_⟩
  change Code.wp _ _ _ _ _
  go_wp2_with fail
  rw [Exit.noGoto_ret]
  go_ret2
  exact ⟨rfl, (Below.refl _ _).alloc (Nat.le_refl _) _⟩

/-- A block is just these cells; none is frozen. -/
def Bk (w : World) (g : Nat) (t : TypeId) (cs : List Value) : Prop := w.heap[g]? = some (.cells cs.toArray t (0, 0))
theorem Bk.lt {w : World} {g : Nat} {t : TypeId} {cs : List Value} (h : Bk w g t cs) : g < w.heap.size := (Array.getElem?_eq_some_iff.1 h).1
theorem Bk.cell {w : World} {g : Nat} {t : TypeId} {cs : List Value} (h : Bk w g t cs) (i : Nat) : w.cell? ⟨g, i, none⟩ = cs[i]? := by rw [cell_of_row w g i _ t (0, 0) h]; simp
theorem Bk.frozen {w : World} {g : Nat} {t : TypeId} {cs : List Value} (h : Bk w g t cs) (i : Nat) : w.frozen? ⟨g, i, none⟩ = false := frozen_of_row w g i _ t h
theorem Bk.new (w : World) (t : TypeId) (cs : List Value) : Bk (w.alloc (.cells cs.toArray t)) w.heap.size t cs := heap_alloc_new w _
theorem Bk.set_ {w : World} {g : Nat} {t : TypeId} {cs : List Value} (h : Bk w g t cs) (i : Nat) (u : Value) : Bk (w.setCell ⟨g, i, none⟩ u) g t (cs.set i u) := by
  unfold Bk; rw [heap_setCell_same w g i _ t u h]; simp
theorem Bk.below {w w' : World} {g B : Nat} {t : TypeId} {cs : List Value} (h : Bk w g t cs) (hb : Below B w w') (hg : g < B) : Bk w' g t cs := (hb.block g hg).trans h
theorem Bk.alloc {w : World} {g : Nat} {t : TypeId} {cs : List Value} (h : Bk w g t cs) (o : Obj) : Bk (w.alloc o) g t cs := (Below.heap_alloc w o g h.lt).trans h
theorem Bk.grown {w w' : World} {g : Nat} {t : TypeId} {cs : List Value} {row : Option Nat} (h : Bk w g t cs) (hb : w.grownBy w' row) (hg : some g ≠ row) : Bk w' g t cs := (hb.block g h.lt hg).trans h

/-- Growths put to places. -/
def acc (S : List Int) : List (Nat × Int) → List Int
  | [] => S
  | p :: r => acc (S.set p.1 (S.getD p.1 0 + p.2)) r
theorem acc_append (S : List Int) (p q : List (Nat × Int)) : acc S (p ++ q) = acc (acc S p) q := by
  induction p generalizing S with
  | nil => rfl
  | cons a r ih => exact ih _
theorem acc_take (S : List Int) (ps : List (Nat × Int)) (k : Nat) (hk : k < ps.length) : acc S (ps.take (k + 1)) = (acc S (ps.take k)).set ps[k].1 ((acc S (ps.take k)).getD ps[k].1 0 + ps[k].2) := by
  rw [List.take_succ_eq_append_getElem hk, acc_append]; rfl
theorem acc_len (S : List Int) (ps : List (Nat × Int)) : (acc S ps).length = S.length := by
  induction ps generalizing S with
  | nil => rfl
  | cons a r ih => rw [acc, ih, List.length_set]
theorem getD_set (S : List Int) (i j : Nat) (x : Int) : (S.set i x).getD j 0 = if i = j ∧ i < S.length then x else S.getD j 0 := by
  simp only [List.getD_eq_getElem?_getD, List.getElem?_set]
  by_cases h : i = j
  · subst h
    by_cases h' : i < S.length
    · simp [h']
    · simp [h']
  · simp [h]
theorem acc_bd (M : Int) (S : List Int) (ps : List (Nat × Int)) (hM : 0 ≤ M) (hS : ∀ i, -M ≤ S.getD i 0 ∧ S.getD i 0 ≤ M) (hp : ∀ j (h : j < ps.length), -1048575 ≤ ps[j].2 ∧ ps[j].2 ≤ 1048575) :
    ∀ i, -(M + ps.length * 1048575) ≤ (acc S ps).getD i 0 ∧ (acc S ps).getD i 0 ≤ M + ps.length * 1048575 := by
  induction ps generalizing S M with
  | nil => intro i; simpa [acc] using hS i
  | cons a r ih =>
    intro i
    have h0 := hp 0 (by simp)
    simp only [List.getElem_cons_zero] at h0
    have := ih (M + 1048575) (S.set a.1 (S.getD a.1 0 + a.2)) (by omega) (fun j => by
      rw [getD_set]
      have h1 := hS j
      have h2 := hS a.1
      split <;> omega) (fun j h => by have := hp (j + 1) (by simpa using h); simpa using this) i
    rw [acc]
    simp only [List.length_cons]
    omega

def zeros64 : List Int := List.replicate 64 0
theorem zeros_bd : ∀ i, -0 ≤ zeros64.getD i 0 ∧ zeros64.getD i 0 ≤ 0 := by
  intro i
  unfold zeros64
  simp only [List.getD_eq_getElem?_getD, List.getElem?_replicate]
  split <;> simp
/-- The sums behind so many shifts. -/
def sums (ps : List (Nat × Int)) (k : Nat) : List Int := acc zeros64 (ps.take k)
theorem sums_len (ps : List (Nat × Int)) (k : Nat) : (sums ps k).length = 64 := by unfold sums; rw [acc_len]; rfl
theorem sums_bd (ps : List (Nat × Int)) (k : Nat) (hk : ps.length ≤ 64) (hp : ∀ j (h : j < ps.length), -1048575 ≤ ps[j].2 ∧ ps[j].2 ≤ 1048575) : ∀ i, -67108864 ≤ (sums ps k).getD i 0 ∧ (sums ps k).getD i 0 ≤ 67108864 := by
  intro i
  have h := acc_bd 0 zeros64 (ps.take k) (Int.le_refl _) zeros_bd (fun j h => by rw [List.getElem_take]; exact hp j (by rw [List.length_take] at h; omega)) i
  have hl : (ps.take k).length ≤ 64 := by rw [List.length_take]; omega
  unfold sums
  omega

/-- A number and a place, as a shift. -/
def cx (b : Int) (a : Nat) : Value := .complex .f64 (floatOfInt .f64 b) (floatOfInt .f64 a)
/-- What the sums of the first places come to. -/
def outOf (S : List Int) : Nat → List Value
  | 0 => []
  | k + 1 => outOf S k ++ (if S.getD k 0 = 0 then [] else [cx (S.getD k 0) k])
theorem outOf_len (S : List Int) (k : Nat) : (outOf S k).length ≤ k := by
  induction k with
  | zero => simp [outOf]
  | succ k ih => simp only [outOf, List.length_append]; split <;> simp <;> omega

/-- A row of values of one cell each that reads as these. -/
def RdV (w : World) (v : Value) (xs : List Value) : Prop := Rdc w 1 v xs.length xs
theorem RdV.at_ {w : World} {v : Value} {xs : List Value} (h : RdV w v xs) : ∃ a cap, v = .slice a xs.length cap ∧ xs.length ≤ cap ∧ cap ≤ 9223372036854775807 ∧ (∀ k (hk : k < xs.length), ∃ b o, a = some ⟨b, o, none⟩ ∧ w.cell? ⟨b, o + k, none⟩ = some xs[k]) := by
  obtain ⟨-, a, cap, h1, h2, h3, h4, h5⟩ := h
  exact ⟨a, cap, h1, h2, h3, fun k hk => h5 k _ (List.getElem?_eq_getElem hk)⟩

def zval (z : Nat × Nat) : Value := .complex .f64 z.1 z.2
theorem RdV.zs {w : World} {v : Value} {zs : List (Nat × Nat)} (h : RdV w v (zs.map zval)) : ∃ a cap, v = .slice a zs.length cap ∧ zs.length ≤ cap ∧ cap ≤ 9223372036854775807 ∧ (∀ k (hk : k < zs.length), ∃ b o, a = some ⟨b, o, none⟩ ∧ w.cell? ⟨b, o + k, none⟩ = some (.complex .f64 zs[k].1 zs[k].2)) := by
  obtain ⟨a, cap, rfl, h1, h2, h3⟩ := h.at_
  rw [List.length_map] at h1
  refine ⟨a, cap, by rw [List.length_map], h1, h2, fun k hk => ?_⟩
  obtain ⟨b, o, e, hc⟩ := h3 k (by simpa using hk)
  exact ⟨b, o, e, by rw [hc, List.getElem_map]; rfl⟩

theorem sums_zero (ps : List (Nat × Int)) : sums ps 0 = zeros64 := by unfold sums; rfl
theorem sums_cells (S : List Int) (hl : S.length = 64) (a : Nat) (ha : a < 64) : (S.map (Value.int .i64))[a]? = some (.int .i64 (S.getD a 0)) := by
  rw [List.getElem?_map, List.getElem?_eq_getElem (by omega)]; simp [List.getD, hl, ha]

theorem sums_step (ps : List (Nat × Int)) (k : Nat) (hk : k < ps.length) : (sums ps (k + 1)).map (Value.int .i64) = ((sums ps k).map (Value.int .i64)).set ps[k].1 (.int .i64 ((sums ps k)[ps[k].1]?.getD 0 + ps[k].2)) := by
  unfold sums; rw [acc_take _ _ _ hk, List.map_set, List.getD_eq_getElem?_getD]

set_option maxHeartbeats 800000 in
set_option maxRecDepth 100000 in
theorem sum_wrong (v : Value) (zs : List (Nat × Nat)) (ps : List (Nat × Int)) (w : World) (h : RdV w v (zs.map zval)) (hn : zs.length ≤ 64) (hp : ps.length < zs.length)
    (hy : ∀ j (h : j < ps.length), Zyes zs[j].1 zs[j].2 ps[j].1 ps[j].2) (hno : Zno zs[ps.length].1 zs[ps.length].2) :
    Calls Try.prog 32 #[v] w (GivesErr 2 w) := by
  obtain ⟨a, cap, rfl, hcap, hb, hc⟩ := h.zs
  clear h
  have HS := Lib.hid (sums_bd ps · (by omega) (fun j h => ⟨(hy j h).hb, (hy j h).hb'⟩))
  go_enter Try.func32, Try.ntmps32
  go_wp2_with fail
  refine wp_scope_fwd 0 rfl ?_
  go_wp2_with fail
  go_loopw [18] (fun i wr => ∃ k : Nat, k ≤ ps.length ∧ i = .int .i64 k ∧ Bk wr w.heap.size 51 ((sums ps k).map (Value.int .i64)) ∧ Below w.heap.size w wr) (fun i _ => zs.length - (intOf i).toNat)
  case atStart => exact ⟨0, Nat.zero_le _, rfl, heap_alloc_new w _, (Below.refl _ _).alloc (Nat.le_refl _) _⟩
  case round =>
    obtain ⟨k, hk, rfl, hbk, hbw⟩ := hrel
    obtain ⟨b, o, rfl, hcell⟩ := hc k (by omega)
    have hcell' := (hbw.cell (p := ⟨b, o + k, none⟩) (lt_of_cell hcell)).trans hcell
    clear hcell
    by_cases hlt : k < ps.length
    · have hz := hy k hlt
      have hs1 := HS.out k ps[k].1
      rw [List.getD_eq_getElem?_getD] at hs1
      have hz1 := hz.hb
      have hz2 := hz.hb'
      have hz3 := hz.ha
      have hcl := (hbk.cell ps[k].1).trans (sums_cells _ (sums_len ps k) _ hz3)
      have hfr := hbk.frozen ps[k].1
      have hlt2 : k < zs.length := by omega
      go_wp2_with (go_at_call 39; refine (parts_yes _ _ _ _ _ hz).mono ?_; rintro e w1 ⟨rfl, rfl⟩)
      go_roundw
      case rel => exact ⟨k + 1, by omega, by go_num, by rw [sums_step ps k hlt]; exact hbk.set_ _ _, hbw.setCell (Nat.le_refl _) _⟩
      case measure => simp [intOf]; omega
    · obtain rfl : k = ps.length := by omega
      go_wp2_with (go_at_call 39; refine (parts_no _ _ _ hno).mono ?_; rintro e w1 ⟨rfl, rfl⟩)
      go_step3
      refine ⟨rfl, ?_⟩
      change Code.wp _ _ _ _ _
      go_wp2_with fail
      rw [Exit.noGoto_ret]
      go_ret2
      exact ⟨rfl, hbw⟩
end Go.Proofs.Ytadnijagechkcaa
