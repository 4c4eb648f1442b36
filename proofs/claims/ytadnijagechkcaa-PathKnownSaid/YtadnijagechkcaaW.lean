/- The closed statement: its walk. -/
import Derived.Test.YtadnijagechkcaaV
namespace Go.Proofs.Ytadnijagechkcaa
open Go.RowKit

theorem complex_info_ : (Try.prog.info? 25).map (fun i => (i.zero, i.size, i.bytes)) = some (some (.complex .f64 0 0), 1, 16) := cx_info
theorem makeZ (n : Nat) (hn : n ≤ 1000) (w : World) : (Instr.makeSlice 26 (.int .i64 (n : Int)) (.int .i64 (n : Int))).run Try.prog w = .ok (.slice (some ⟨w.heap.size, 0, none⟩) n n) (w.alloc (.cells (madeCells #[.complex .f64 0 0] n) 25)) :=
  run_make_row' 26 25 (.complex .f64 0 0) 16 Try.underlying26 cx_info rfl .i64 .i64 n (by omega) (by omega) w
theorem RdV.made (w : World) (n : Nat) (hn : n ≤ 100000) : RdV (w.alloc (.cells (madeCells #[.complex .f64 0 0] n) 25)) (.slice (some ⟨w.heap.size, 0, none⟩) n n) ((List.replicate n ((0 : Nat), (0 : Nat))).map zval) := by
  have h := RdV.lit w ((List.replicate n ((0 : Nat), (0 : Nat))).map zval) 25 _ n rfl (by simp) (by simpa using hn)
  have e : ((List.replicate n ((0 : Nat), (0 : Nat))).map zval).toArray = madeCells #[.complex .f64 0 0] n := by
    apply Array.ext'
    rw [toList_madeCells_one, List.map_replicate]; rfl
  rwa [e] at h

/-- The rows of the table, cell by cell. -/
def Rows16 (w : World) (b o : Nat) (rs : Nat → Value) : Prop := ∀ j, j < 16 → w.cell? ⟨b, o + j, none⟩ = some (rs j) ∧ Rd w (rs j) (PP j)
theorem RdRows.open_ {w : World} {v : Value} (h : RdRows w v) : ∃ b o cap rs, v = .slice (some ⟨b, o, none⟩) 16 cap ∧ 16 ≤ cap ∧ cap ≤ 9223372036854775807 ∧ Rows16 w b o rs := by
  obtain ⟨vs, hl, h1, h2⟩ := h
  obtain ⟨a, cap, rfl, h3, h4, h5⟩ := h1.at_
  obtain ⟨b, o, rfl, -⟩ := h5 0 (by omega)
  refine ⟨b, o, cap, fun j => vs.getD j undef, by rw [hl], by omega, h4, fun j hj => ⟨?_, h2 j hj⟩⟩
  obtain ⟨b', o', e, hc⟩ := h5 j (by omega)
  injection e with e
  injection e with e1 e2
  subst e1 e2
  rw [hc]
  simp [List.getD, show j < vs.length by omega]
theorem Rows16.below {w w' : World} {b o : Nat} {rs : Nat → Value} (h : Rows16 w b o rs) (hb : Below w.heap.size w w') : Rows16 w' b o rs := fun j hj =>
  ⟨(hb.cell (p := ⟨b, o + j, none⟩) (lt_of_cell (h j hj).1)).trans (h j hj).1, (h j hj).2.below hb⟩
def zlist (b : Nat) : List (Nat × Nat) := (List.range 23).map (ZZ b)
theorem z_top : Zyes 4697254402757492736 0 0 1048575 := zyes_of (by kernel_rfl)
theorem z_0 : Zyes 0 0 0 0 := zyes_of (by kernel_rfl)
theorem z_m1_3 : Zyes 13830554455654793216 4613937818241073152 3 (-1) := zyes_of (by kernel_rfl)
theorem zknown0 {n : Nat} : ∀ z ∈ List.replicate n ((0 : Nat), (0 : Nat)), Zknown z.1 z.2 := by
  intro z hz; obtain rfl := List.eq_of_mem_replicate hz; exact .inl ⟨_, _, z_0⟩
theorem zknown2 : ∀ z ∈ [((4697254402757492736 : Nat), (0 : Nat)), (4607182418800017408, 0)], Zknown z.1 z.2 := by
  intro z hz
  simp only [List.mem_cons, List.not_mem_nil, or_false] at hz
  rcases hz with rfl | rfl
  · exact .inl ⟨_, _, z_top⟩
  · exact .inl ⟨_, _, z_1_0⟩
theorem zknown3 : ∀ z ∈ [((4697254402757492736 : Nat), (0 : Nat)), (4607182418800017408, 0), (13830554455654793216, 0)], Zknown z.1 z.2 := by
  intro z hz
  simp only [List.mem_cons, List.not_mem_nil, or_false] at hz
  rcases hz with rfl | rfl | rfl
  · exact .inl ⟨_, _, z_top⟩
  · exact .inl ⟨_, _, z_1_0⟩
  · exact .inl ⟨_, _, z_m1_0⟩
theorem zknown4 {a b c d : Nat} (h : Zknown a b) (h' : Zknown c d) : ∀ z ∈ [(a, b), (c, d), (4607182418800017408, 0), (13830554455654793216, 4613937818241073152)], Zknown z.1 z.2 := by
  intro z hz
  simp only [List.mem_cons, List.not_mem_nil, or_false] at hz
  rcases hz with rfl | rfl | rfl | rfl
  · exact h
  · exact h'
  · exact .inl ⟨_, _, z_1_0⟩
  · exact .inl ⟨_, _, z_m1_3⟩
theorem keep3 {w w' : World} {a1 a2 a3 : Addr} {v1 v2 v3 : Value} (h : w.cell? a1 = some v1 ∧ w.cell? a2 = some v2 ∧ w.cell? a3 = some v3) (hb : Below w.heap.size w w') : w'.cell? a1 = some v1 ∧ w'.cell? a2 = some v2 ∧ w'.cell? a3 = some v3 :=
  ⟨(hb.cell (block_lt_of_cell h.1)).trans h.1, (hb.cell (block_lt_of_cell h.2.1)).trans h.2.1, (hb.cell (block_lt_of_cell h.2.2)).trans h.2.2⟩
theorem keep2 {w w' : World} {a1 a2 : Addr} {v1 v2 : Value} (h : w.cell? a1 = some v1 ∧ w.cell? a2 = some v2) (hb : Below w.heap.size w w') : w'.cell? a1 = some v1 ∧ w'.cell? a2 = some v2 :=
  ⟨(hb.cell (block_lt_of_cell h.1)).trans h.1, (hb.cell (block_lt_of_cell h.2)).trans h.2⟩

set_option maxHeartbeats 800000 in
set_option maxRecDepth 100000 in
theorem known_any (w : World) : Calls Try.prog 3 #[] w (Holds1 w) := by
  go_enter Try.func3, Try.ntmps3
  go_wp2_with fail
  refine wp_region_mid FF (by kernel_rfl) (by kernel_rfl) (by kernel_rfl) FF_below ?_ ?_
  · intro i o ho
    match i with
    | 0 =>
      obtain rfl := Option.some.inj ho
      refine ⟨rfl, fun a w hb hs hd => ?_⟩
      go_simp
      exact ⟨_, rfl, (Below.refl _ _).alloc (Nat.le_refl _) _, Rd.lit w [0] 3 _ 1 rfl rfl (by simp)⟩
    | 1 =>
      obtain rfl := Option.some.inj ho
      refine ⟨rfl, fun a w hb hs hd => ?_⟩
      go_simp
      exact ⟨_, rfl, (Below.refl _ _).alloc (Nat.le_refl _) _, Rd.lit w [1] 3 _ 1 rfl rfl (by simp)⟩
    | 2 =>
      obtain rfl := Option.some.inj ho
      refine ⟨rfl, fun a w hb hs hd => ?_⟩
      go_simp
      exact ⟨_, rfl, (Below.refl _ _).alloc (Nat.le_refl _) _, Rd.lit w [0, 0] 3 _ 2 rfl rfl (by simp)⟩
    | 3 =>
      obtain rfl := Option.some.inj ho
      refine ⟨rfl, fun a w hb hs hd => ?_⟩
      go_simp
      exact ⟨_, rfl, (Below.refl _ _).alloc (Nat.le_refl _) _, Rd.lit w [0, 2] 3 _ 2 rfl rfl (by simp)⟩
    | 4 =>
      obtain rfl := Option.some.inj ho
      refine ⟨rfl, fun a w hb hs hd => ?_⟩
      go_simp
      exact ⟨_, rfl, (Below.refl _ _).alloc (Nat.le_refl _) _, Rd.lit w [0, 2, 1] 3 _ 3 rfl rfl (by simp)⟩
    | 5 =>
      obtain rfl := Option.some.inj ho
      refine ⟨rfl, fun a w hb hs hd => ?_⟩
      go_simp
      exact ⟨_, rfl, (Below.refl _ _).alloc (Nat.le_refl _) _, Rd.lit w [0, 3] 3 _ 2 rfl rfl (by simp)⟩
    | 6 =>
      obtain rfl := Option.some.inj ho
      refine ⟨rfl, fun a w hb hs hd => ?_⟩
      go_simp
      exact ⟨_, rfl, (Below.refl _ _).alloc (Nat.le_refl _) _, Rd.lit w [-1] 3 _ 1 rfl rfl (by simp)⟩
    | 7 =>
      obtain rfl := Option.some.inj ho
      refine ⟨rfl, fun a w hb hs hd => ?_⟩
      go_simp
      exact ⟨_, rfl, (Below.refl _ _).alloc (Nat.le_refl _) _, Rd.lit w [1048575] 3 _ 1 rfl rfl (by simp)⟩
    | 8 =>
      obtain rfl := Option.some.inj ho
      refine ⟨rfl, fun a w hb hs hd => ?_⟩
      go_simp
      exact ⟨_, rfl, (Below.refl _ _).alloc (Nat.le_refl _) _, Rd.lit w [1048576] 3 _ 1 rfl rfl (by simp)⟩
    | 9 =>
      obtain rfl := Option.some.inj ho
      refine ⟨rfl, fun a w hb hs hd => ?_⟩
      go_simp
      exact ⟨_, rfl, (Below.refl _ _).alloc (Nat.le_refl _) _, Rd.lit w [0, 4611686018427387904] 3 _ 2 rfl rfl (by simp)⟩
    | 10 =>
      obtain rfl := Option.some.inj ho
      refine ⟨rfl, fun a w hb hs hd => ?_⟩
      go_simp
      exact ⟨_, rfl, (Below.refl _ _).alloc (Nat.le_refl _) _, Rd.lit w [4, 7, 1] 3 _ 3 rfl rfl (by simp)⟩
    | 11 =>
      obtain rfl := Option.some.inj ho
      refine ⟨rfl, fun a w hb hs hd => ?_⟩
      go_simp
      exact ⟨_, rfl, (Below.refl _ _).alloc (Nat.le_refl _) _, Rd.lit w [4, 5, 1] 3 _ 3 rfl rfl (by simp)⟩
    | 12 =>
      obtain rfl := Option.some.inj ho
      refine ⟨rfl, fun a w hb hs hd => ?_⟩
      go_simp
      exact ⟨_, rfl, (Below.refl _ _).alloc (Nat.le_refl _) _, Rd.lit w [4, 5, 2] 3 _ 3 rfl rfl (by simp)⟩
    | 13 =>
      obtain rfl := Option.some.inj ho
      refine ⟨rfl, fun a w hb hs hd => ?_⟩
      have hmk := makeI 64 (by omega) w
      simp only [Int.cast_ofNat_Int] at hmk
      go_simp
      exact ⟨_, rfl, (Below.refl _ _).alloc (Nat.le_refl _) _, Rd.made w 64 (by omega)⟩
    | 14 =>
      obtain rfl := Option.some.inj ho
      refine ⟨rfl, fun a w hb hs hd => ?_⟩
      have hmk := makeI 65 (by omega) w
      simp only [Int.cast_ofNat_Int] at hmk
      go_simp
      exact ⟨_, rfl, (Below.refl _ _).alloc (Nat.le_refl _) _, Rd.made w 65 (by omega)⟩
    | 15 =>
      obtain rfl := Option.some.inj ho
      refine ⟨rfl, fun a w hb hs hd => ?_⟩
      obtain ⟨a0, c0, e0, h0⟩ := (show Rd w (a.tmps.getD 9 undef) (PL 0) from hd ⟨0, .data⟩ (by simp) rfl _ 9 rfl rfl)
      obtain ⟨a1, c1, e1, h1⟩ := (show Rd w (a.tmps.getD 10 undef) (PL 1) from hd ⟨1, .data⟩ (by simp) rfl _ 10 rfl rfl)
      obtain ⟨a2, c2, e2, h2⟩ := (show Rd w (a.tmps.getD 11 undef) (PL 2) from hd ⟨2, .data⟩ (by simp) rfl _ 11 rfl rfl)
      obtain ⟨a3, c3, e3, h3⟩ := (show Rd w (a.tmps.getD 12 undef) (PL 3) from hd ⟨3, .data⟩ (by simp) rfl _ 12 rfl rfl)
      obtain ⟨a4, c4, e4, h4⟩ := (show Rd w (a.tmps.getD 13 undef) (PL 4) from hd ⟨4, .data⟩ (by simp) rfl _ 13 rfl rfl)
      obtain ⟨a5, c5, e5, h5⟩ := (show Rd w (a.tmps.getD 14 undef) (PL 5) from hd ⟨5, .data⟩ (by simp) rfl _ 14 rfl rfl)
      obtain ⟨a6, c6, e6, h6⟩ := (show Rd w (a.tmps.getD 15 undef) (PL 6) from hd ⟨6, .data⟩ (by simp) rfl _ 15 rfl rfl)
      obtain ⟨a7, c7, e7, h7⟩ := (show Rd w (a.tmps.getD 16 undef) (PL 7) from hd ⟨7, .data⟩ (by simp) rfl _ 16 rfl rfl)
      obtain ⟨a8, c8, e8, h8⟩ := (show Rd w (a.tmps.getD 17 undef) (PL 8) from hd ⟨8, .data⟩ (by simp) rfl _ 17 rfl rfl)
      obtain ⟨a9, c9, e9, h9⟩ := (show Rd w (a.tmps.getD 18 undef) (PL 9) from hd ⟨9, .data⟩ (by simp) rfl _ 18 rfl rfl)
      obtain ⟨a10, c10, e10, h10⟩ := (show Rd w (a.tmps.getD 19 undef) (PL 10) from hd ⟨10, .data⟩ (by simp) rfl _ 19 rfl rfl)
      obtain ⟨a11, c11, e11, h11⟩ := (show Rd w (a.tmps.getD 20 undef) (PL 11) from hd ⟨11, .data⟩ (by simp) rfl _ 20 rfl rfl)
      obtain ⟨a12, c12, e12, h12⟩ := (show Rd w (a.tmps.getD 21 undef) (PL 12) from hd ⟨12, .data⟩ (by simp) rfl _ 21 rfl rfl)
      obtain ⟨a13, c13, e13, h13⟩ := (show Rd w (a.tmps.getD 22 undef) (PL 13) from hd ⟨13, .data⟩ (by simp) rfl _ 22 rfl rfl)
      obtain ⟨a14, c14, e14, h14⟩ := (show Rd w (a.tmps.getD 23 undef) (PL 14) from hd ⟨14, .data⟩ (by simp) rfl _ 23 rfl rfl)
      rw [Array.getD_eq_getD_getElem?] at e0 e1 e2 e3 e4 e5 e6 e7 e8 e9 e10 e11 e12 e13 e14
      go_simp
      refine ⟨_, rfl, (Below.refl _ _).alloc (Nat.le_refl _) _, ?_⟩
      have hb1 : Below w.heap.size w (w.alloc _) := (Below.refl _ _).alloc (Nat.le_refl _) (.cells [Value.slice none 0 0, .slice a0 (PL 0).length c0, .slice a1 (PL 1).length c1, .slice a2 (PL 2).length c2, .slice a3 (PL 3).length c3, .slice a4 (PL 4).length c4, .slice a5 (PL 5).length c5, .slice a6 (PL 6).length c6, .slice a7 (PL 7).length c7, .slice a8 (PL 8).length c8, .slice a9 (PL 9).length c9, .slice a10 (PL 10).length c10, .slice a11 (PL 11).length c11, .slice a12 (PL 12).length c12, .slice a13 (PL 13).length c13, .slice a14 (PL 14).length c14].toArray 22)
      refine ⟨[.slice none 0 0, .slice a0 (PL 0).length c0, .slice a1 (PL 1).length c1, .slice a2 (PL 2).length c2, .slice a3 (PL 3).length c3, .slice a4 (PL 4).length c4, .slice a5 (PL 5).length c5, .slice a6 (PL 6).length c6, .slice a7 (PL 7).length c7, .slice a8 (PL 8).length c8, .slice a9 (PL 9).length c9, .slice a10 (PL 10).length c10, .slice a11 (PL 11).length c11, .slice a12 (PL 12).length c12, .slice a13 (PL 13).length c13, .slice a14 (PL 14).length c14], rfl, RdV.lit w _ 22 _ 16 rfl rfl (by simp), fun j hj => ?_⟩
      match j with
      | 0 => exact rd_nil _
      | 1 => exact Rd.below ⟨a0, c0, rfl, h0⟩ hb1
      | 2 => exact Rd.below ⟨a1, c1, rfl, h1⟩ hb1
      | 3 => exact Rd.below ⟨a2, c2, rfl, h2⟩ hb1
      | 4 => exact Rd.below ⟨a3, c3, rfl, h3⟩ hb1
      | 5 => exact Rd.below ⟨a4, c4, rfl, h4⟩ hb1
      | 6 => exact Rd.below ⟨a5, c5, rfl, h5⟩ hb1
      | 7 => exact Rd.below ⟨a6, c6, rfl, h6⟩ hb1
      | 8 => exact Rd.below ⟨a7, c7, rfl, h7⟩ hb1
      | 9 => exact Rd.below ⟨a8, c8, rfl, h8⟩ hb1
      | 10 => exact Rd.below ⟨a9, c9, rfl, h9⟩ hb1
      | 11 => exact Rd.below ⟨a10, c10, rfl, h10⟩ hb1
      | 12 => exact Rd.below ⟨a11, c11, rfl, h11⟩ hb1
      | 13 => exact Rd.below ⟨a12, c12, rfl, h12⟩ hb1
      | 14 => exact Rd.below ⟨a13, c13, rfl, h13⟩ hb1
      | 15 => exact Rd.below ⟨a14, c14, rfl, h14⟩ hb1
      | n + 16 => exact absurd hj (by omega)
    | 16 =>
      obtain rfl := Option.some.inj ho
      refine ⟨rfl, fun a w hb hs hd => ?_⟩
      have h : RdRows w (a.tmps.getD 24 undef) := hd ⟨15, .data⟩ (by simp) rfl _ 24 rfl rfl
      rw [Array.getD_eq_getD_getElem?] at h
      go_simp
      exact ⟨_, rfl, Below.refl _ _, h⟩
    | n + 17 => exact absurd ho (by simp)
  · intro a w1 hb hdef hsz hbase hF
    have hrows : RdRows w1 (a.tmps.getD 1 undef) := hF 16 _ 1 rfl rfl
    have he := rebuild hsz hbase
    obtain ⟨tmps, defers⟩ := a
    dsimp only at hdef hrows he
    subst hdef
    simp only [laid, List.foldl_cons, List.foldl_nil] at he
    generalize tmps.getD 1 undef = v1 at he hrows
    generalize tmps.getD 9 undef = v9 at he
    generalize tmps.getD 10 undef = v10 at he
    generalize tmps.getD 11 undef = v11 at he
    generalize tmps.getD 12 undef = v12 at he
    generalize tmps.getD 13 undef = v13 at he
    generalize tmps.getD 14 undef = v14 at he
    generalize tmps.getD 15 undef = v15 at he
    generalize tmps.getD 16 undef = v16 at he
    generalize tmps.getD 17 undef = v17 at he
    generalize tmps.getD 18 undef = v18 at he
    generalize tmps.getD 19 undef = v19 at he
    generalize tmps.getD 20 undef = v20 at he
    generalize tmps.getD 21 undef = v21 at he
    generalize tmps.getD 22 undef = v22 at he
    generalize tmps.getD 23 undef = v23 at he
    generalize tmps.getD 24 undef = v24 at he
    simp at he
    subst he
    clear hbase hF hsz
    have HB := hb
    have HR := Lib.hid hrows
    clear hb hrows
    rename_i K hK
    refine hK _ _ ?_
    clear hK K
    obtain ⟨b, hnan, hrun⟩ := run_nan w1
    have HN := Lib.hid hnan
    clear hnan
    have hinf := fun w => run_float_arith (P := Try.prog) w .quo 24 .f64 4607182418800017408 0 9218868437227405312 (by kernel_rfl)
    go_wp2_with fail
    generalize hw2 : World.drew (w1.alloc (Obj.cells _ 25)) = w2
    have hzc : ∀ k, k < 23 → w2.cell? ⟨w1.heap.size, k, none⟩ = some (.complex .f64 (ZZ b k).1 (ZZ b k).2) := by
      intro k hk
      rw [← hw2]
      exact ((Bk.new w1 25 ((List.range 23).map fun k => zval (ZZ b k))).cell k).trans (by simp [hk]; rfl)
    have HB2 : Below w.heap.size w w2 := by rw [← hw2]; exact (bAl HB _).drew
    have HR2 : RdRows w2 v1 := by rw [← hw2]; exact RdRows.below HR.out (((Below.refl _ _).alloc (Nat.le_refl _) _).drew)
    obtain ⟨bp, op, cp, rs, rfl, hcp1, hcp2, hrs⟩ := HR2.open_
    have HZC := Lib.hid hzc
    have HRS := Lib.hid hrs
    have hgz : w1.heap.size < w2.heap.size := lt_of_cell (hzc 0 (by omega))
    generalize w1.heap.size = g at *
    clear hw2 hzc hrs HR HR2 hrun hinf HB
    go_loopw [5] (fun i wr => ∃ n : Nat, n ≤ 16 ∧ i = .int .i64 n ∧ Below w2.heap.size w2 wr) (fun i _ => 16 - (intOf i).toNat)
    case atStart => exact ⟨0, Nat.zero_le _, rfl, Below.refl _ _⟩
    case round =>
      obtain ⟨n, hn, rfl, hbr⟩ := hrel
      by_cases hlt : n < 16
      · obtain ⟨hcell, hread⟩ := (HRS.out.below hbr) n hlt
        go_wp2_with fail
        refine (lawMay _ _ _ hread (pp_len n hlt)).mono ?_
        rintro e w3 ⟨rfl, hb3⟩
        have HB3 := bNext hbr hb3
        have HP3 := hread.below hb3
        clear hb3 hcell hread
        go_wp2_with fail
        refine (lawParent _ _ _ _ HP3 (pp_len n hlt)).mono ?_
        rintro e w4 ⟨rfl, hb4⟩
        have HB4 := bNext HB3 hb4
        clear hb4 HB3 HP3
        go_wp2_with fail
        go_loopw [7] (fun i wr => ∃ k : Nat, k ≤ 16 ∧ i = .int .i64 k ∧ Below w2.heap.size w2 wr) (fun i _ => 16 - (intOf i).toNat)
        case atStart => exact ⟨0, Nat.zero_le _, rfl, HB4⟩
        case round =>
          obtain ⟨k, hk, rfl, hbk⟩ := hrel
          obtain ⟨w5, rfl⟩ : ∃ w5 : World, w5 = wr := ⟨_, rfl⟩
          by_cases hlk : k < 16
          · obtain ⟨m, hm⟩ : ∃ m, m = (n + k) % 16 := ⟨_, rfl⟩
            have hm16 : m < 16 := by omega
            have HRB := Lib.hid (HRS.out.below hbk)
            have hc1 := (HRB.out k hlk).1
            have hc2 := (HRB.out m hm16).1
            have L1 := Lib.hid (fun w' (hb : Below w5.heap.size w5 w') => lawTwo _ _ _ _ w' ((HRB.out n hlt).2.below hb) ((HRB.out k hlk).2.below hb) (pp_len n hlt) (pp_len k hlk))
            have L2 := Lib.hid (fun w' (hb : Below w5.heap.size w5 w') => lawBetween _ _ _ _ w' ((HRB.out n hlt).2.below hb) ((HRB.out k hlk).2.below hb) (pp_len n hlt) (pp_len k hlk))
            have ho := ord_all n hlt k hlk
            rw [← hm] at ho
            have L3 := Lib.hid (fun w' (hb : Below w5.heap.size w5 w') => lawOrder _ _ _ _ _ _ w' ((HRB.out n hlt).2.below hb) ((HRB.out k hlk).2.below hb) ((HRB.out m hm16).2.below hb) (pp_len n hlt) (pp_len k hlk) (pp_len m hm16) ho)
            have s1 : IntKind.i64.wrap ((n : Int) + k) = (n : Int) + k := IntWalk.i64_in _ (by omega)
            have s2 : ((n : Int) + k).tmod 16 = (m : Int) := by rw [Int.tmod_eq_emod_of_nonneg (by omega)]; omega
            have s3 : IntKind.i64.wrap (m : Int) = (m : Int) := IntWalk.i64_in _ (by omega)
            have s4 : ((n : Int) + k) % 16 = (m : Int) := by omega
            have s5 : 0 ≤ (m : Int) := by omega
            have s6 : (m : Int) < 16 := by omega
            have s7 : (m : Int).toNat = m := by omega
            have s8 : 0 ≤ (n : Int) + k := by omega
            have hbw5 : Below w5.heap.size w5 w5.drew := (Below.refl _ _).drew
            clear ho hm
            go_wp2_with fail
            go_region_held3 (fun w' => w'.cell? ⟨bp, op + k, none⟩ = some (rs k) ∧ w'.cell? ⟨bp, op + m, none⟩ = some (rs m)) (exact keep2 ⟨by assumption, by assumption⟩ (by assumption))
              (first
                | (go_at_call 6; refine (L1.out _ (by assumption)).mono ?_; rintro e w6 ⟨rfl, hb6⟩; have HB6 := bNext hbw5 hb6)
                | (go_at_call 7; refine (L2.out _ (by assumption)).mono ?_; rintro e w7 ⟨rfl, hb7⟩; have HB7 := bNext HB6 hb7)
                | (go_at_call 8; refine (L3.out _ (by assumption)).mono ?_; rintro e w8 ⟨rfl, hb8⟩; have HB8 := bNext HB7 hb8))
            have HK := bNext hbk HB8
            clear L1 L2 L3 HB6 HB7 HB8 hbw5 HRB hc1 hc2 s1 s2 s3 s4 s5 s6 s7 s8
            go_wp2_with fail
            go_roundw
            case rel => exact ⟨k + 1, by omega, by go_num, HK⟩
            case measure => simp [intOf]; omega
          · go_wp2_with fail
            go_loopw [8] (fun i wr => ∃ k : Nat, k ≤ 23 ∧ i = .int .i64 k ∧ Below w2.heap.size w2 wr) (fun i _ => 23 - (intOf i).toNat)
            case atStart => exact ⟨0, Nat.zero_le _, rfl, hbk⟩
            case round =>
              obtain ⟨k, hk, rfl, hbk2⟩ := hrel
              obtain ⟨w6, rfl⟩ : ∃ w6 : World, w6 = wr := ⟨_, rfl⟩
              by_cases hlk : k < 23
              · obtain ⟨m, hm⟩ : ∃ m, m = (n + k) % 23 := ⟨_, rfl⟩
                have hm23 : m < 23 := by omega
                have hn23 : n < 23 := by omega
                have HRB := Lib.hid (HRS.out.below hbk2)
                have hc1 := (hbk2.cell (p := ⟨g, k, none⟩) hgz).trans (HZC.out k hlk)
                have hc2 := (hbk2.cell (p := ⟨g, m, none⟩) hgz).trans (HZC.out m hm23)
                have hc3 := (hbk2.cell (p := ⟨g, n, none⟩) hgz).trans (HZC.out n hn23)
                have L1 := Lib.hid (fun w' (hb : Below w6.heap.size w6 w') => lawShift _ _ _ _ w' ((HRB.out n hlt).2.below hb) (pp_len n hlt) (zz_known HN.out k hlk))
                have L2 := Lib.hid (fun w' (hb : Below w6.heap.size w6 w') => lawBack _ _ _ _ _ _ w' ((HRB.out n hlt).2.below hb) (pp_len n hlt) (zz_pair HN.out k m hlk hm23))
                have L3 := Lib.hid (zknown4 (zz_known HN.out k hlk) (zz_known HN.out n hn23))
                have s1 : IntKind.i64.wrap ((n : Int) + k) = (n : Int) + k := IntWalk.i64_in _ (by omega)
                have s2 : ((n : Int) + k).tmod 23 = (m : Int) := by rw [Int.tmod_eq_emod_of_nonneg (by omega)]; omega
                have s3 : IntKind.i64.wrap (m : Int) = (m : Int) := IntWalk.i64_in _ (by omega)
                have s4 : ((n : Int) + k) % 23 = (m : Int) := by omega
                have s5 : 0 ≤ (m : Int) := by omega
                have s6 : (m : Int) < 23 := by omega
                have s7 : (m : Int).toNat = m := by omega
                have s8 : 0 ≤ (n : Int) + k := by omega
                have s9 : (n : Int) < 23 := by omega
                have hbw6 : Below w6.heap.size w6 w6.drew := (Below.refl _ _).drew
                clear hm
                generalize (ZZ b k).1 = zr1 at *
                generalize (ZZ b k).2 = zi1 at *
                generalize (ZZ b m).1 = zr2 at *
                generalize (ZZ b m).2 = zi2 at *
                generalize (ZZ b n).1 = zr3 at *
                generalize (ZZ b n).2 = zi3 at *
                go_wp2_with fail
                go_region_held3 (fun w' => w'.cell? ⟨g, k, none⟩ = some (.complex .f64 zr1 zi1) ∧ w'.cell? ⟨g, m, none⟩ = some (.complex .f64 zr2 zi2) ∧ w'.cell? ⟨g, n, none⟩ = some (.complex .f64 zr3 zi3)) (exact keep3 ⟨by assumption, by assumption, by assumption⟩ (by first | assumption | exact bAl (by assumption) _))
                  (first
                    | (go_at_call 9; refine (L1.out _ (by assumption)).mono ?_; rintro e w7 ⟨rfl, hb7⟩; have HB7 := bNext hbw6 hb7)
                    | (go_at_call 10; refine (L2.out _ (by assumption)).mono ?_; rintro e w8 ⟨rfl, hb8⟩; have HB8 := bNext HB7 hb8)
                    | (go_at_call 11; refine (lawSum _ [(zr1, zi1), (zr3, zi3), (4607182418800017408, 0), (13830554455654793216, 4613937818241073152)] _ (RdV.lit _ _ _ _ 4 rfl rfl (by simp)) (by simp) L3.out).mono ?_; rintro e w9 ⟨rfl, hb9⟩; have HB9 := bNext (bAl HB8 _) hb9))
                have HK := bNext hbk2 HB9
                clear L1 L2 L3 HB7 HB8 HB9 hbw6 HRB hc1 hc2 hc3 s1 s2 s3 s4 s5 s6 s7 s8 s9
                go_wp2_with fail
                go_roundw
                case rel => exact ⟨k + 1, by omega, by go_num, HK⟩
                case measure => simp [intOf]; omega
              · go_wp2_with fail
                go_roundw
                case rel => exact ⟨n + 1, by omega, by go_num, hbk2⟩
                case measure => simp [intOf]; omega
      · have hmk1 := makeZ 64 (by omega)
        have hmk2 := makeZ 65 (by omega)
        simp only [Int.cast_ofNat_Int] at hmk1 hmk2
        have HB3 := bNext HB2 hbr
        clear hbr HRS HZC HN
        go_wp2_with fail
        refine (lawSum _ (List.replicate 64 (0, 0)) _ (RdV.made _ 64 (by omega)) (by simp) zknown0).mono ?_
        rintro e w3 ⟨rfl, hb3⟩
        have HB4 := bNext (bAl HB3 _) hb3
        clear hb3 HB3
        go_wp2_with fail
        refine (lawSum _ (List.replicate 65 (0, 0)) _ (RdV.made _ 65 (by omega)) (by simp) zknown0).mono ?_
        rintro e w4 ⟨rfl, hb4⟩
        have HB5 := bNext (bAl HB4 _) hb4
        clear hb4 HB4
        go_wp2_with fail
        refine (lawSum _ [] _ ⟨rfl, none, 0, rfl, by simp, by omega, fun _ => rfl, fun j u hu => by simp at hu⟩ (by simp) (fun z hz => by cases hz)).mono ?_
        rintro e w5 ⟨rfl, hb5⟩
        have HB6 := bNext HB5 hb5
        clear hb5 HB5
        go_wp2_with fail
        refine (lawSum _ [(4697254402757492736, 0), (4607182418800017408, 0)] _ (RdV.lit _ _ _ _ 2 rfl rfl (by simp)) (by simp) zknown2).mono ?_
        rintro e w6 ⟨rfl, hb6⟩
        have HB7 := bNext (bAl HB6 _) hb6
        clear hb6 HB6
        go_wp2_with fail
        refine (lawSum _ [(4697254402757492736, 0), (4607182418800017408, 0), (13830554455654793216, 0)] _ (RdV.lit _ _ _ _ 3 rfl rfl (by simp)) (by simp) zknown3).mono ?_
        rintro e w7 ⟨rfl, hb7⟩
        have HB8 := bNext (bAl HB7 _) hb7
        clear hb7 HB7
        go_wp2_with fail
        refine (works_any _).mono ?_
        rintro e w13 ⟨rfl, hb13⟩
        have HB13 := bNext HB8 hb13
        clear hb13 HB8
        go_wp2_with fail
        go_ret
        exact ⟨rfl, HB13⟩
end Go.Proofs.Ytadnijagechkcaa
