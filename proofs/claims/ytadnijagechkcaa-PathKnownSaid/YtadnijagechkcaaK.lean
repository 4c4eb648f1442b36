/- Contracts: Sum, where the shifts may all be. -/
import Derived.Test.YtadnijagechkcaaJ
namespace Go.Proofs.Ytadnijagechkcaa
open Go.RowKit

theorem cx_info : (Try.prog.info? 25).map (fun i => (i.zero, i.size, i.bytes)) = some (some (.complex .f64 0 0), 1, 16) := by kernel_rfl

/-- A row of values of one cell each, of one's own. -/
def OwnV (base : Nat) (e : TypeId) (w : World) (v : Value) (xs : List Value) : Prop := w.ownsRow base e 1 v xs.length xs
theorem OwnV.nil (base : Nat) (e : TypeId) (w : World) : OwnV base e w (.slice none 0 0) [] := World.ownsRow_nil w base _ 1
theorem OwnV.below {base : Nat} {e : TypeId} {w w' : World} {v : Value} {l : List Value} (h : OwnV base e w v l) (hb : Below w.heap.size w w') : OwnV base e w' v l :=
  World.ownsRow.kept h (row := none) ⟨hb.os, hb.tape, hb.output, hb.size, fun k hk _ => hb.block k hk⟩ (by cases v.ownBlock <;> simp)
theorem OwnV.alloc {base : Nat} {e : TypeId} {w : World} {v : Value} {l : List Value} (h : OwnV base e w v l) (o : Obj) : OwnV base e (w.alloc o) v l := World.ownsRow.alloc h o
theorem OwnV.rdv {base : Nat} {e : TypeId} {w : World} {v : Value} {l : List Value} (h : OwnV base e w v l) : RdV w v l := Rdc.of_own h
theorem RdV.one (w : World) (x : Value) (t : TypeId) : RdV (w.alloc (.cells #[x] t)) (.slice (some ⟨w.heap.size, 0, none⟩) 1 1) [x] := by
  refine ⟨rfl, _, 1, rfl, by simp, by omega, fun h => by simp at h, fun j u hj => ⟨_, _, rfl, ?_⟩⟩
  obtain ⟨h1, h2⟩ := List.getElem?_eq_some_iff.1 hj
  obtain rfl : j = 0 := by simpa using h1
  simpa using h2

theorem OwnV.mono_ {base base' : Nat} {e : TypeId} {w : World} {v : Value} {l : List Value} (h : OwnV base e w v l) (hb : base' ≤ base) : OwnV base' e w v l := by
  obtain ⟨h0, h1⟩ := h
  refine ⟨h0, ?_⟩
  rcases h1 with h1 | ⟨g, cap, cur, e, h2, h3⟩
  · exact .inl h1
  · exact .inr ⟨g, cap, cur, e, by omega, h3⟩

/-- An append of one complex number. -/
theorem wpList_appZ {w : World} {ops : Array Oper} {rest : List Oper} {o : Oper} {a : Act} {Q : Exit → Act → World → Prop} (hgd : o.guard = none) (s x : Operand)
    (ho : o.op = .call { callee := .builtin .append, args := #[s, x], argTypes := #[26, 26] })
    (base : Nat) (v : Value) (l : List Value) (hs : a.eval s = v) (hown : OwnV base 25 w v l) (u z : Value) (hz : z.oneCell' = true) (hx : a.eval x = u) (hr : RdV w u [z])
    (hb : l.length ≤ 100000) (hbase : base ≤ w.heap.size)
    (h : ∀ v' w', OwnV base 25 w' v' (l ++ [z]) → w.grownBy w' v.ownBlock → wpList Try.prog ops Q rest (a.put o.dst v') w') : wpList Try.prog ops Q (o :: rest) a w :=
  wpList_app hgd s x _ ho base 25 (.complex .f64 0 0) 1 16 Try.underlying26 cx_info rfl (by omega) v l.length _ hs hown u 1 [z] hx hr (by simpa using hz) (by unfold maxLen; omega) (by omega) hbase
    fun v' w' h2 h3 _ _ => h v' w' (by unfold OwnV; rw [List.length_append]; exact h2) h3

def GivesV (xs : List Value) (w : World) (e : Ending) (w' : World) : Prop := ∃ r, e = .returned (.tuple #[r, .int .i64 0]) ∧ OwnV w.heap.size 25 w' r xs ∧ Below w.heap.size w w'
def InR (x : Int) : Prop := -1048575 ≤ x ∧ x ≤ 1048575
def SumPost (S : List Int) (w : World) (e : Ending) (w' : World) : Prop :=
  ((∃ j, j < 64 ∧ ¬ InR (S.getD j 0)) ∧ GivesErr 3 w e w') ∨ ((∀ j, j < 64 → InR (S.getD j 0)) ∧ GivesV (outOf S 64) w e w')

theorem run_index_arr (w : World) (cs : List Value) (k : Nat) (hk : k < 64) (x : Value) (hx : cs[k]? = some x) :
    (Instr.index 51 (.agg cs.toArray) (.int .i64 k)).run Try.prog w = .ok x w := by
  obtain ⟨i, hi, hz, hs, hby⟩ := info_parts int_info
  have h1 : ((k : Int) < 64) := by omega
  simp [Instr.index, asIntOf, run_underlying Try.underlying51, run_underlying Try.underlying3, part, isAgg, sizeOf, typeInfo, hi, hs, hk, h1, hx, go_sem]

theorem outOf_zero {S : List Int} {k : Nat} (h : S[k]?.getD 0 = 0) : outOf S (k + 1) = outOf S k := by
  simp only [outOf]; rw [List.getD_eq_getElem?_getD, if_pos h, List.append_nil]
theorem outOf_more {S : List Int} {k : Nat} (h : ¬ S[k]?.getD 0 = 0) : outOf S (k + 1) = outOf S k ++ [cx (S[k]?.getD 0) k] := by
  simp only [outOf]; rw [List.getD_eq_getElem?_getD, if_neg h]
theorem inR_step {S : List Int} {k : Nat} (h : ∀ j, j < k → InR (S.getD j 0)) (h1 : -1048575 ≤ S[k]?.getD 0) (h2 : S[k]?.getD 0 ≤ 1048575) : ∀ j, j < k + 1 → InR (S.getD j 0) := fun j hj => by
  by_cases e : j = k
  · subst e; rw [List.getD_eq_getElem?_getD]; exact ⟨h1, h2⟩
  · exact h j (by omega)
theorem inR_not {S : List Int} {k : Nat} (hk : k < 64) (h : S[k]?.getD 0 < -1048575 ∨ 1048575 < S[k]?.getD 0) : ∃ j, j < 64 ∧ ¬ InR (S.getD j 0) :=
  ⟨k, hk, fun hh => by rw [List.getD_eq_getElem?_getD] at hh; unfold InR at hh; omega⟩

theorem sumPost_of {S S' : List Int} (h : S' = S) {w : World} {e : Ending} {w' : World} (k : SumPost S w e w') : SumPost S' w e w' := h ▸ k

set_option maxHeartbeats 800000 in
set_option maxRecDepth 100000 in
theorem sum_any (v : Value) (zs : List (Nat × Nat)) (ps : List (Nat × Int)) (w : World) (h : RdV w v (zs.map zval)) (hn : zs.length ≤ 64) (hp : ps.length = zs.length)
    (hy : ∀ j (h : j < ps.length) (h' : j < zs.length), Zyes zs[j].1 zs[j].2 ps[j].1 ps[j].2) :
    Calls Try.prog 32 #[v] w (SumPost (sums ps ps.length) w) := by
  obtain ⟨a, cap, rfl, hcap, hb, hc⟩ := h.zs
  clear h
  have HS := Lib.hid (sums_bd ps · (by omega) (fun j h => ⟨(hy j h (by omega)).hb, (hy j h (by omega)).hb'⟩))
  have HP := Lib.hid hp
  have hple : ps.length ≤ zs.length := by omega
  have hple' : zs.length ≤ ps.length := by omega
  clear hp
  go_enter Try.func32, Try.ntmps32
  go_wp2_with fail
  refine wp_scope_fwd 0 rfl ?_
  go_wp2_with fail
  go_loopw [18] (fun i wr => ∃ k : Nat, k ≤ ps.length ∧ i = .int .i64 k ∧ Bk wr w.heap.size 51 ((sums ps k).map (Value.int .i64)) ∧ Below w.heap.size w wr) (fun i _ => zs.length - (intOf i).toNat)
  case atStart => exact ⟨0, Nat.zero_le _, rfl, heap_alloc_new w _, (Below.refl _ _).alloc (Nat.le_refl _) _⟩
  case round =>
    obtain ⟨k, hk, rfl, hbk, hbw⟩ := hrel
    by_cases hlt : k < ps.length
    · obtain ⟨b, o, rfl, hcell⟩ := hc k (by omega)
      have hcell' := (hbw.cell (p := ⟨b, o + k, none⟩) (lt_of_cell hcell)).trans hcell
      clear hcell
      have hlt2 : k < zs.length := by omega
      have hz := hy k hlt hlt2
      have hs1 := HS.out k ps[k].1
      rw [List.getD_eq_getElem?_getD] at hs1
      have hz1 := hz.hb
      have hz2 := hz.hb'
      have hz3 := hz.ha
      have hcl := (hbk.cell ps[k].1).trans (sums_cells _ (sums_len ps k) _ hz3)
      have hfr := hbk.frozen ps[k].1
      go_wp2_with (go_at_call 39; refine (parts_yes _ _ _ _ _ hz).mono ?_; rintro e w1 ⟨rfl, rfl⟩)
      go_roundw
      case rel => exact ⟨k + 1, by omega, by go_num, by rw [sums_step ps k hlt]; exact hbk.set_ _ _, hbw.setCell (Nat.le_refl _) _⟩
      case measure => simp [intOf]; omega
    · obtain rfl : k = ps.length := by omega
      have HB := Lib.hid (sums_bd ps ps.length (by omega) (fun j h => ⟨(hy j h (by omega)).hb, (hy j h (by omega)).hb'⟩))
      clear HS
      have HL := Lib.hid (sums_len ps ps.length)
      generalize hSS : sums ps ps.length = S at *
      have HSS := Lib.hid hSS
      clear hSS
      clear hc hy
      have hsz : w.heap.size < wr.heap.size := hbk.lt
      go_wp2_with (refine wpList_load_row rfl 51 _ rfl w.heap.size rfl 51 _ (0, 0) _ hbk Try.underlying51 rfl (by simp only [List.size_toArray, List.length_map, HL.out]; kernel_rfl) ?_)
      go_loopw [5, 38] (fun v i w2 => ∃ k : Nat, k ≤ 64 ∧ i = .int .i64 k ∧ (∀ j, j < k → InR (S.getD j 0)) ∧ OwnV w.heap.size 25 w2 v (outOf S k) ∧ Below w.heap.size w w2) (fun _ i _ => 64 - (intOf i).toNat)
      case atStart => exact ⟨0, Nat.zero_le _, rfl, fun j h => by omega, OwnV.nil _ _ _, hbw⟩
      case round =>
        obtain ⟨k, hk, rfl, hall, hown, hb2⟩ := hrel
        have HA := Lib.hid hall
        clear hall
        by_cases hlt : k < 64
        · have hg := HB.out k
          rw [List.getD_eq_getElem?_getD] at hg
          have hix := fun w => run_index_arr w _ k hlt _ (sums_cells S HL.out k hlt)
          rw [List.getD_eq_getElem?_getD] at hix
          by_cases h1 : S[k]?.getD 0 < -1048575
          · go_wp2_with fail
            rw [jump_ret]
            go_ret2
            exact sumPost_of HSS.out (.inl ⟨inR_not hlt (.inl h1), rfl, hb2⟩)
          · by_cases h2 : 1048575 < S[k]?.getD 0
            · go_wp2_with fail
              rw [jump_ret]
              go_ret2
              exact sumPost_of HSS.out (.inl ⟨inR_not hlt (.inr h2), rfl, hb2⟩)
            · by_cases h3 : S[k]?.getD 0 = 0
              · have h3a : (S[k]?.getD 0 != 0) = false := by simpa using h3
                have H3 := Lib.hid h3
                clear h3
                go_wp2_with fail
                go_roundw
                case rel => exact ⟨k + 1, by omega, by go_num, inR_step HA.out (by omega) (by omega), by rw [outOf_zero H3.out]; exact hown, hb2⟩
                case measure => simp [intOf]; omega
              · have h3a : (S[k]?.getD 0 != 0) = true := by simpa using h3
                have hol := outOf_len S k
                go_wp2_with (at_builtin; refine wpList_appZ rfl (.tmp 52) (.tmp 58) rfl w.heap.size _ (outOf S k) rfl (hown.alloc _) _ (cx (S[k]?.getD 0) k) rfl rfl (RdV.one _ _ _) (by omega) (Nat.le_trans hb2.size (by simp)) ?_; intro v3 w3 hown3 hg3)
                go_roundw
                case rel => exact ⟨k + 1, by omega, by go_num, inR_step HA.out (by omega) (by omega), by rw [outOf_more h3]; exact hown3, (hb2.alloc hb2.size _).grown hg3 (Nat.le_trans hb2.size (by simp)) (fun q hq => ((World.ownsRow.lt hown) q hq).1)⟩
                case measure => simp [intOf]; omega
        · obtain rfl : k = 64 := by omega
          go_wp2_with fail
          rw [jump_ret]
          go_ret2
          exact sumPost_of HSS.out (.inr ⟨HA.out, _, rfl, hown, hb2⟩)
end Go.Proofs.Ytadnijagechkcaa
