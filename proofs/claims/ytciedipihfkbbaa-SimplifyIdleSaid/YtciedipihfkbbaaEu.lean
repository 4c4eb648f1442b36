/- Two operations made fewer: the program's walk. -/
import Derived.Test.YtciedipihfkbbaaEt
namespace Go.Proofs.Ytciedipihfkbbaa
open Go.RowKit

theorem Two.c {w W : World} {a b : OpR} (h : Two w W a b) : (W.cell? ⟨w.heap.size, 0, none⟩ = some (.int .u8 a.o.kind) ∧ W.cell? ⟨w.heap.size, 1, none⟩ = some a.p ∧ W.cell? ⟨w.heap.size, 2, none⟩ = some (.int .i64 a.o.gap) ∧ W.cell? ⟨w.heap.size, 3, none⟩ = some a.t ∧ W.cell? ⟨w.heap.size, 4, none⟩ = some (.int .u64 a.o.id) ∧ W.cell? ⟨w.heap.size, 5, none⟩ = some (.bool a.o.leaf) ∧ W.cell? ⟨w.heap.size, 6, none⟩ = some (.string a.o.label) ∧ W.cell? ⟨w.heap.size, 7, none⟩ = some (.string a.o.key) ∧ W.cell? ⟨w.heap.size, 8, none⟩ = some (.string a.o.val) ∧ W.cell? ⟨w.heap.size, 9, none⟩ = some (.bool a.o.gone) ∧ W.cell? ⟨w.heap.size, 10, none⟩ = some a.q) ∧
    (W.cell? ⟨w.heap.size + 1, 0, none⟩ = some (.int .u8 b.o.kind) ∧ W.cell? ⟨w.heap.size + 1, 1, none⟩ = some b.p ∧ W.cell? ⟨w.heap.size + 1, 2, none⟩ = some (.int .i64 b.o.gap) ∧ W.cell? ⟨w.heap.size + 1, 3, none⟩ = some b.t ∧ W.cell? ⟨w.heap.size + 1, 4, none⟩ = some (.int .u64 b.o.id) ∧ W.cell? ⟨w.heap.size + 1, 5, none⟩ = some (.bool b.o.leaf) ∧ W.cell? ⟨w.heap.size + 1, 6, none⟩ = some (.string b.o.label) ∧ W.cell? ⟨w.heap.size + 1, 7, none⟩ = some (.string b.o.key) ∧ W.cell? ⟨w.heap.size + 1, 8, none⟩ = some (.string b.o.val) ∧ W.cell? ⟨w.heap.size + 1, 9, none⟩ = some (.bool b.o.gone) ∧ W.cell? ⟨w.heap.size + 1, 10, none⟩ = some b.q) := ⟨h.ba.c, h.bb.c⟩

theorem Two.edit {w W : World} {a b : OpR} (h : Two w W a b) (h0 : Came w a.o a.p a.t a.q) (h1 : Came w b.o b.p b.t b.q) {r : Value} {l : List Pc} (ho : OwnP w.heap.size W r l) (hf : Fit l) :
    Two w (W.setCell ⟨w.heap.size + 1, 10, none⟩ r) a ⟨{ b.o with pieces := l }, b.p, b.t, r⟩ := by
  have hb : Below w.heap.size w (W.setCell ⟨w.heap.size + 1, 10, none⟩ r) := h.bel.setCell (by simp) _
  refine ⟨bkSet h.ba (by omega), Bk.set_ h.bb 10 _, h0.below hb, ⟨(h1.below hb).path, (h1.below hb).to, ?_, ?_⟩, hb⟩
  · exact (ownSetP ho (ho.not_block h.bb (by decide))).rd hf
  · obtain ⟨k0, k1, g0, g1, l1, l2, l3⟩ := h1.fits
    exact ⟨k0, k1, g0, g1, l1, l2, l3⟩

theorem busy_formed {o : OpV} (h : busyB o = true) : formedB o = true := by rw [busyB, Bool.and_eq_true] at h; exact h.1

set_option maxHeartbeats 3200000 in
set_option maxRecDepth 100000 in
theorem pair_any (C : List Pc → List Pc → Option (List Pc)) (v u : Value) (a b : OpV) (w : World) (h : RdO w v a) (h' : RdO w u b) (hla : Lim a) (hlb : Lim b)
    (hC : a.kind = 6 → b.kind = 6 → CompAt 36 C a.pieces b.pieces) :
    Calls Try.prog 13 #[v, u] w (GivesPair (pairV C a b) w) := by
  obtain ⟨p, t, q, rfl, h1, h2, h3, hF⟩ := h
  obtain ⟨p', t', q', rfl, g1, g2, g3, hG⟩ := h'
  have HA := Lib.hid (Came.mk h1 h2 h3 hF)
  have HB := Lib.hid (Came.mk g1 g2 g3 hG)
  have H := Lib.hid (Two.new (a := ⟨a, p, t, q⟩) (b := ⟨b, p', t', q'⟩) HA.out HB.out)
  obtain ⟨X, hX⟩ : ∃ X, X = pairV C a b := ⟨_, rfl⟩
  rw [← hX]
  have HX := Lib.hid hX
  have HC := Lib.hid hC
  have HLA := Lib.hid hla
  have HLB := Lib.hid hlb
  clear h1 h2 h3 hF g1 g2 g3 hG hX hC hla hlb
  unfold OpV.at_
  go_enter Try.func13, Try.ntmps13
  go_wp2_with fail
  refine wp_scope_fwd 0 rfl ?_
  go_wp2_with fail
  go_at_call 33
  refine (busy_any _ _ _ H.out.opA).mono ?_
  rintro e w1 ⟨rfl, hb1⟩
  have H1 := Lib.hid (H.out.next hb1)
  clear hb1
  obtain ⟨⟨e0, e1, e2, e3, e4, e5, e6, e7, e8, e9, e10⟩, f0, f1, f2, f3, f4, f5, f6, f7, f8, f9, f10⟩ := H1.out.c
  dsimp only at e0 e1 e2 e3 e4 e5 e6 e7 e8 e9 e10 f0 f1 f2 f3 f4 f5 f6 f7 f8 f9 f10
  cases ca : busyB a
  · have HN := Lib.hid (HX.out.trans (pair_idle (.inl ca)))
    clear ca
    go_wp2_with fail
    go_step3
    refine ⟨rfl, ?_⟩
    change Code.wp _ _ _ _ _
    go_wp2_with fail
    rw [Exit.noGoto_ret]
    go_ret2
    exact ⟨_, by rw [HN.out]; rfl, by rw [HN.out]; exact OwnOs.nil _ _, H1.out.bel⟩
  · have CA := Lib.hid ca
    clear ca
    go_wp2_with fail
    go_at_call 33
    refine (busy_any _ _ _ H1.out.opB).mono ?_
    rintro e w2 ⟨rfl, hb2⟩
    have H2 := Lib.hid (H1.out.next hb2)
    clear hb2 e0 e1 e2 e3 e4 e5 e6 e7 e8 e9 e10 f0 f1 f2 f3 f4 f5 f6 f7 f8 f9 f10
    obtain ⟨⟨e0, e1, e2, e3, e4, e5, e6, e7, e8, e9, e10⟩, f0, f1, f2, f3, f4, f5, f6, f7, f8, f9, f10⟩ := H2.out.c
    dsimp only at e0 e1 e2 e3 e4 e5 e6 e7 e8 e9 e10 f0 f1 f2 f3 f4 f5 f6 f7 f8 f9 f10
    cases cb : busyB b
    · have HN := Lib.hid (HX.out.trans (pair_idle (.inr cb)))
      clear cb
      go_wp2_with fail
      go_step3
      refine ⟨rfl, ?_⟩
      change Code.wp _ _ _ _ _
      go_wp2_with fail
      rw [Exit.noGoto_ret]
      go_ret2
      exact ⟨_, by rw [HN.out]; rfl, by rw [HN.out]; exact OwnOs.nil _ _, H2.out.bel⟩
    · have CB := Lib.hid cb
      clear cb
      by_cases hk : a.kind = 1
      · have hpl : a.path.length ≤ 100000 := HLA.out.1
        cases hS : decide (a.path ++ [a.gap] = b.path)
        all_goals
          have HS : Hid (∀ (v u : Value) (w : World), Rd w v (a.path ++ [a.gap]) → Rd w u b.path → Calls Try.prog 29 #[v, u] w fun e w' => e = .returned (.bool (decide (a.path ++ [a.gap] = b.path))) ∧ Qt w w') := Lib.hid fun v u w x y => same_any v u _ _ w x y
          have HD := Lib.hid hS
          rw [hS] at HS
          clear hS
          go_wp2_with fail
          have hbd : Below w2.heap.size w2 w2.drew := (Below.refl _ _).drew
          go_region_held3 (fun w' => w'.cell? ⟨w.heap.size, 0, none⟩ = some (.int .u8 a.kind) ∧ w'.cell? ⟨w.heap.size, 1, none⟩ = some p ∧ w'.cell? ⟨w.heap.size, 2, none⟩ = some (.int .i64 a.gap) ∧ w'.cell? ⟨w.heap.size + 1, 1, none⟩ = some p')
            (first | (refine ⟨?_, ?_, ?_, ?_⟩ <;> with_reducible assumption) | go_keep)
            (first
              | (go_at_call 34; refine (child_any _ _ _ _ (H2.out.ca.path.below hbd) hpl).mono ?_; rintro e w5 ⟨r, rfl, ho, hb5⟩; have H5 := Lib.hid (H2.out.next (hbd.trans hb5)); have HO := Lib.hid ho; obtain ⟨⟨d0, d1, d2, -⟩, -, d4, -⟩ := H5.out.c; clear ho)
              | (go_at_call 29; refine (HS.out _ _ _ HO.out.rd H5.out.cb.path).mono ?_; rintro e w6 ⟨rfl, hq6⟩; have H6 := Lib.hid (H5.out.qt hq6); obtain ⟨⟨q0, q1, q2, -⟩, -, q4, -⟩ := H6.out.c; clear hq6))
          all_goals
            clear e0 e1 e2 e3 e4 e5 e6 e7 e8 e9 e10 f0 f1 f2 f3 f4 f5 f6 f7 f8 f9 f10 d0 d1 d2 d4 q0 q1 q2 q4 HS hbd
            obtain ⟨⟨e0, e1, e2, e3, e4, e5, e6, e7, e8, e9, e10⟩, f0, f1, f2, f3, f4, f5, f6, f7, f8, f9, f10⟩ := H6.out.c
            dsimp only at e0 e1 e2 e3 e4 e5 e6 e7 e8 e9 e10 f0 f1 f2 f3 f4 f5 f6 f7 f8 f9 f10
            rw [hk] at e0
        · -- no child of it
          have hD := of_decide_eq_false HD.out
          have HK := Lib.hid hk
          by_cases hb : b.kind = 1
          · rw [hb] at f0
            have HKB := Lib.hid hb
            cases hS : decide (a.path = b.path)
            all_goals
              have HE := Lib.hid (same_any p p' a.path b.path w6 H6.out.ca.path H6.out.cb.path)
              rw [hS] at HE
              have HS := Lib.hid hS
              clear hS hD
              go_wp2_with (go_at_call 29; refine HE.out.mono ?_; rintro e w7 ⟨rfl, hq7⟩; have H7 := Lib.hid (H6.out.qt hq7); clear hq7 e0 e1 e2 e3 e4 e5 e6 e7 e8 e9 e10 f0 f1 f2 f3 f4 f5 f6 f7 f8 f9 f10; obtain ⟨⟨e0, e1, e2, e3, e4, e5, e6, e7, e8, e9, e10⟩, f0, f1, f2, f3, f4, f5, f6, f7, f8, f9, f10⟩ := H7.out.c; dsimp only at e0 e1 e2 e3 e4 e5 e6 e7 e8 e9 e10 f0 f1 f2 f3 f4 f5 f6 f7 f8 f9 f10)
            · have HN := Lib.hid (HX.out.trans (pair_apart CA.out CB.out (fun ⟨_, x, _⟩ => of_decide_eq_false HD.out x) (.inr (of_decide_eq_false HS.out))))
              go_step3
              refine ⟨rfl, ?_⟩
              change Code.wp _ _ _ _ _
              go_wp2_with fail
              rw [Exit.noGoto_ret]
              go_ret2
              exact ⟨_, by rw [HN.out]; rfl, by rw [HN.out]; exact OwnOs.nil _ _, H7.out.bel⟩
            · have HN := Lib.hid (HX.out.trans (pair_else CA.out CB.out (HK.out.trans HKB.out.symm) (of_decide_eq_true HS.out) (by have := HK.out; omega)))
              go_step3
              refine ⟨rfl, ?_⟩
              change Code.wp _ _ _ _ _
              go_wp2_with fail
              rw [Exit.noGoto_ret]
              go_ret2
              exact ⟨_, by rw [HN.out]; rfl, by rw [HN.out]; exact OwnOs.nil _ _, H7.out.bel⟩
          · have hb1 : ((1 : Int) == b.kind) = false := by simpa using (fun e => hb e.symm : ¬ (1 : Int) = b.kind)
            have hb2 : ((1 : Int) != b.kind) = true := by simpa using (fun e => hb e.symm : ¬ (1 : Int) = b.kind)
            have HN := Lib.hid (HX.out.trans (pair_apart CA.out CB.out (fun ⟨_, x, _⟩ => of_decide_eq_false HD.out x) (.inl (by rw [HK.out]; exact fun e => hb e.symm))))
            clear hD
            go_wp2_with fail
            go_step3
            refine ⟨rfl, ?_⟩
            change Code.wp _ _ _ _ _
            go_wp2_with fail
            rw [Exit.noGoto_ret]
            go_ret2
            exact ⟨_, by rw [HN.out]; rfl, by rw [HN.out]; exact OwnOs.nil _ _, H6.out.bel⟩
        · -- a child of it
          have hD := of_decide_eq_true HD.out
          have HDD := Lib.hid hD
          clear hD
          by_cases hb2 : b.kind = 2
          · have HN := Lib.hid (HX.out.trans (pair_drop CA.out CB.out hk HDD.out hb2))
            rw [hb2] at f0
            go_wp2_with fail
            rw [jump_ret]
            go_ret2
            exact ⟨_, by rw [HN.out]; rfl, by rw [HN.out]; exact OwnOs.nil _ _, H6.out.bel⟩
          · by_cases hb5 : b.kind = 5
            · have HN := Lib.hid (HX.out.trans (pair_label CA.out CB.out hk HDD.out hb5))
              rw [hb5] at f0
              have HK := Lib.hid hk
              clear hb2
              have hfz := H6.out.ba.frozen
              have H7 := Lib.hid (H6.out.label HA.out HB.out)
              obtain ⟨ao, hao⟩ : ∃ ao, ao = ({ a with label := b.label } : OpV) := ⟨_, rfl⟩
              have hlim : Lim ao := by subst hao; exact ⟨HLA.out.1, HLA.out.2.1, HLA.out.2.2⟩
              have hfit : Fit ao.pieces := by subst hao; exact fit_rd HA.out.pieces
              have hfits : ao.Fits := by subst hao; exact H7.out.ca.fits
              have h7 : RdO (w6.setCell ⟨w.heap.size, 6, none⟩ (.string b.label)) (.agg #[.int .u8 1, p, .int .i64 a.gap, t, .int .u64 a.id, .bool a.leaf, .string b.label, .string a.key, .string a.val, .bool a.gone, q]) ao := by
                have := H7.out.opA
                subst hao
                unfold OpV.at_ at this
                dsimp only at this
                rw [hk] at this ⊢
                exact this
              rw [← hao] at HN
              have H7A := Lib.hid h7
              have HF7 := Lib.hid (And.intro hlim (And.intro hfit hfits))
              clear h7 hlim hfit hfits hao
              go_wp2_with fail
              go_at_call 35
              refine (bare_any _ ao _ H7A.out HF7.out.1).mono ?_
              rintro e w8 ⟨p8, t8, q8, he8, ho8, ht8, hp8, hb8⟩
              unfold OpV.at_ at he8
              subst he8
              have HS8 := Lib.hid (And.intro (ho8.mono (Below.size H7.out.bel)) (And.intro (ht8.mono (Below.size H7.out.bel)) (hp8.mono (Below.size H7.out.bel))))
              have HB8 := Lib.hid (bNext H7.out.bel hb8)
              clear ho8 ht8 hp8 hb8
              go_wp2_with fail
              rw [jump_ret]
              go_ret2
              exact ⟨_, by rw [HN.out]; rfl, by rw [HN.out]; exact OwnOs.single HB8.out.size HS8.out.1 HS8.out.2.1 HS8.out.2.2 (bare_fit HF7.out.2.1) (bare_fits HF7.out.2.2), bAl HB8.out _⟩
            · have hne : ¬ a.path = b.path := fun e => by have := congrArg List.length HDD.out; rw [e] at this; simp at this
              have HNE := Lib.hid hne
              have h13 : ¬ (a.kind = 1 ∧ a.path ++ [a.gap] = b.path ∧ (b.kind = 2 ∨ b.kind = 5)) := fun ⟨_, _, x⟩ => x.elim hb2 hb5
              have HN := Lib.hid (HX.out.trans (pair_apart CA.out CB.out h13 (.inr hne)))
              clear hne h13
              have hb21 : (b.kind == 2) = false := by simpa using hb2
              have hb51 : (b.kind == 5) = false := by simpa using hb5
              by_cases hb : b.kind = 1
              · rw [hb] at f0
                have HE := Lib.hid (same_any p p' a.path b.path w6 H6.out.ca.path H6.out.cb.path)
                rw [decide_eq_false HNE.out] at HE
                clear hb2 hb5 hb21 hb51
                go_wp2_with (go_at_call 29; refine HE.out.mono ?_; rintro e w7 ⟨rfl, hq7⟩; have H7 := Lib.hid (H6.out.qt hq7); clear hq7 e0 e1 e2 e3 e4 e5 e6 e7 e8 e9 e10 f0 f1 f2 f3 f4 f5 f6 f7 f8 f9 f10; obtain ⟨⟨e0, e1, e2, e3, e4, e5, e6, e7, e8, e9, e10⟩, f0, f1, f2, f3, f4, f5, f6, f7, f8, f9, f10⟩ := H7.out.c; dsimp only at e0 e1 e2 e3 e4 e5 e6 e7 e8 e9 e10 f0 f1 f2 f3 f4 f5 f6 f7 f8 f9 f10)
                go_step3
                refine ⟨rfl, ?_⟩
                change Code.wp _ _ _ _ _
                go_wp2_with fail
                rw [Exit.noGoto_ret]
                go_ret2
                exact ⟨_, by rw [HN.out]; rfl, by rw [HN.out]; exact OwnOs.nil _ _, H7.out.bel⟩
              · have hb1 : ((1 : Int) == b.kind) = false := by simpa using (fun e => hb e.symm : ¬ (1 : Int) = b.kind)
                have hb12 : ((1 : Int) != b.kind) = true := by simpa using (fun e => hb e.symm : ¬ (1 : Int) = b.kind)
                clear hb hb2 hb5
                go_wp2_with fail
                go_step3
                refine ⟨rfl, ?_⟩
                change Code.wp _ _ _ _ _
                go_wp2_with fail
                rw [Exit.noGoto_ret]
                go_ret2
                exact ⟨_, by rw [HN.out]; rfl, by rw [HN.out]; exact OwnOs.nil _ _, H6.out.bel⟩
      · have hk1 : (a.kind == 1) = false := by simpa using hk
        have h13 : ¬ (a.kind = 1 ∧ a.path ++ [a.gap] = b.path ∧ (b.kind = 2 ∨ b.kind = 5)) := fun x => hk x.1
        have H13 := Lib.hid h13
        clear h13 hk
        go_wp2_with fail
        go_quiet (fail)
        generalize hw6 : w2.drewN _ = w6
        have H6 := Lib.hid (H2.out.qt ⟨_, hw6.symm⟩)
        clear hw6 e0 e1 e2 e3 e4 e5 e6 e7 e8 e9 e10 f0 f1 f2 f3 f4 f5 f6 f7 f8 f9 f10
        obtain ⟨⟨e0, e1, e2, e3, e4, e5, e6, e7, e8, e9, e10⟩, f0, f1, f2, f3, f4, f5, f6, f7, f8, f9, f10⟩ := H6.out.c
        dsimp only at e0 e1 e2 e3 e4 e5 e6 e7 e8 e9 e10 f0 f1 f2 f3 f4 f5 f6 f7 f8 f9 f10
        by_cases hab : a.kind = b.kind
        · have hab1 : (a.kind == b.kind) = true := by simpa using hab
          have hab2 : (a.kind != b.kind) = false := by simpa using hab
          have HAB := Lib.hid hab
          clear hab
          have HE := Lib.hid (same_any p p' a.path b.path w6 H6.out.ca.path H6.out.cb.path)
          cases hS : decide (a.path = b.path)
          · rw [hS] at HE
            have HN := Lib.hid (HX.out.trans (pair_apart CA.out CB.out H13.out (.inr (of_decide_eq_false hS))))
            clear hS
            go_wp2_with (go_at_call 29; refine HE.out.mono ?_; rintro e w7 ⟨rfl, hq7⟩; have H7 := Lib.hid (H6.out.qt hq7); clear hq7 e0 e1 e2 e3 e4 e5 e6 e7 e8 e9 e10 f0 f1 f2 f3 f4 f5 f6 f7 f8 f9 f10; obtain ⟨⟨e0, e1, e2, e3, e4, e5, e6, e7, e8, e9, e10⟩, f0, f1, f2, f3, f4, f5, f6, f7, f8, f9, f10⟩ := H7.out.c; dsimp only at e0 e1 e2 e3 e4 e5 e6 e7 e8 e9 e10 f0 f1 f2 f3 f4 f5 f6 f7 f8 f9 f10)
            go_step3
            refine ⟨rfl, ?_⟩
            change Code.wp _ _ _ _ _
            go_wp2_with fail
            rw [Exit.noGoto_ret]
            go_ret2
            exact ⟨_, by rw [HN.out]; rfl, by rw [HN.out]; exact OwnOs.nil _ _, H7.out.bel⟩
          · rw [hS] at HE
            have HS := Lib.hid (of_decide_eq_true hS)
            clear hS
            by_cases h5 : a.kind = 5
            · have hbk : b.kind = 5 := by rw [← HAB.out]; exact h5
              have HN := Lib.hid (HX.out.trans (pair_five CA.out CB.out HAB.out HS.out h5))
              clear hab1 hab2
              go_wp2_with (go_at_call 29; refine HE.out.mono ?_; rintro e w7 ⟨rfl, hq7⟩; have H7 := Lib.hid (H6.out.qt hq7); clear hq7 e0 e1 e2 e3 e4 e5 e6 e7 e8 e9 e10 f0 f1 f2 f3 f4 f5 f6 f7 f8 f9 f10; obtain ⟨⟨e0, e1, e2, e3, e4, e5, e6, e7, e8, e9, e10⟩, f0, f1, f2, f3, f4, f5, f6, f7, f8, f9, f10⟩ := H7.out.c; dsimp only at e0 e1 e2 e3 e4 e5 e6 e7 e8 e9 e10 f0 f1 f2 f3 f4 f5 f6 f7 f8 f9 f10)
              have h7B : RdO w7 (.agg #[.int .u8 5, p', .int .i64 b.gap, t', .int .u64 b.id, .bool b.leaf, .string b.label, .string b.key, .string b.val, .bool b.gone, q']) b := by
                have := H7.out.opB
                unfold OpV.at_ at this
                dsimp only at this
                rw [hbk] at this
                exact this
              have H7B := Lib.hid h7B
              clear h7B
              go_at_call 35
              refine (bare_any _ b _ H7B.out HLB.out).mono ?_
              rintro e w8 ⟨p8, t8, q8, he8, ho8, ht8, hp8, hb8⟩
              unfold OpV.at_ at he8
              subst he8
              have HS8 := Lib.hid (And.intro (ho8.mono (Below.size H7.out.bel)) (And.intro (ht8.mono (Below.size H7.out.bel)) (hp8.mono (Below.size H7.out.bel))))
              have HB8 := Lib.hid (bNext H7.out.bel hb8)
              clear ho8 ht8 hp8 hb8
              go_wp2_with fail
              rw [jump_ret]
              go_ret2
              exact ⟨_, by rw [HN.out]; rfl, by rw [HN.out]; exact OwnOs.single HB8.out.size HS8.out.1 HS8.out.2.1 HS8.out.2.2 (bare_fit (fit_rd HB.out.pieces)) (bare_fits HB.out.fits), bAl HB8.out _⟩
            · by_cases h4 : a.kind = 4
              · have hbk : b.kind = 4 := by rw [← HAB.out]; exact h4
                have HN := Lib.hid (HX.out.trans (pair_four CA.out CB.out HAB.out HS.out h4))
                clear hab1 hab2 h5
                by_cases hkey : a.key = b.key
                · have hkey1 : (a.key.toList == b.key.toList) = true := by rw [hkey]; simp
                  rw [if_pos hkey] at HN
                  clear hkey
                  go_wp2_with (go_at_call 29; refine HE.out.mono ?_; rintro e w7 ⟨rfl, hq7⟩; have H7 := Lib.hid (H6.out.qt hq7); clear hq7 e0 e1 e2 e3 e4 e5 e6 e7 e8 e9 e10 f0 f1 f2 f3 f4 f5 f6 f7 f8 f9 f10; obtain ⟨⟨e0, e1, e2, e3, e4, e5, e6, e7, e8, e9, e10⟩, f0, f1, f2, f3, f4, f5, f6, f7, f8, f9, f10⟩ := H7.out.c; dsimp only at e0 e1 e2 e3 e4 e5 e6 e7 e8 e9 e10 f0 f1 f2 f3 f4 f5 f6 f7 f8 f9 f10)
                  have h7B : RdO w7 (.agg #[.int .u8 4, p', .int .i64 b.gap, t', .int .u64 b.id, .bool b.leaf, .string b.label, .string b.key, .string b.val, .bool b.gone, q']) b := by
                    have := H7.out.opB
                    unfold OpV.at_ at this
                    dsimp only at this
                    rw [hbk] at this
                    exact this
                  have H7B := Lib.hid h7B
                  clear h7B
                  go_at_call 35
                  refine (bare_any _ b _ H7B.out HLB.out).mono ?_
                  rintro e w8 ⟨p8, t8, q8, he8, ho8, ht8, hp8, hb8⟩
                  unfold OpV.at_ at he8
                  subst he8
                  have HS8 := Lib.hid (And.intro (ho8.mono (Below.size H7.out.bel)) (And.intro (ht8.mono (Below.size H7.out.bel)) (hp8.mono (Below.size H7.out.bel))))
                  have HB8 := Lib.hid (bNext H7.out.bel hb8)
                  clear ho8 ht8 hp8 hb8
                  go_wp2_with fail
                  rw [jump_ret]
                  go_ret2
                  exact ⟨_, by rw [HN.out]; rfl, by rw [HN.out]; exact OwnOs.single HB8.out.size HS8.out.1 HS8.out.2.1 HS8.out.2.2 (bare_fit (fit_rd HB.out.pieces)) (bare_fits HB.out.fits), bAl HB8.out _⟩
                · have hkey1 : (a.key.toList == b.key.toList) = false := by
                    rw [← Bool.not_eq_true]; intro h; apply hkey; rw [beq_iff_eq, ByteArray.toList_eq, ByteArray.toList_eq] at h
                    exact ByteArray.ext (Array.toList_inj.1 h)
                  rw [if_neg hkey] at HN
                  clear hkey
                  go_wp2_with (go_at_call 29; refine HE.out.mono ?_; rintro e w7 ⟨rfl, hq7⟩; have H7 := Lib.hid (H6.out.qt hq7); clear hq7 e0 e1 e2 e3 e4 e5 e6 e7 e8 e9 e10 f0 f1 f2 f3 f4 f5 f6 f7 f8 f9 f10; obtain ⟨⟨e0, e1, e2, e3, e4, e5, e6, e7, e8, e9, e10⟩, f0, f1, f2, f3, f4, f5, f6, f7, f8, f9, f10⟩ := H7.out.c; dsimp only at e0 e1 e2 e3 e4 e5 e6 e7 e8 e9 e10 f0 f1 f2 f3 f4 f5 f6 f7 f8 f9 f10)
                  go_step3
                  refine ⟨rfl, ?_⟩
                  change Code.wp _ _ _ _ _
                  go_wp2_with fail
                  rw [Exit.noGoto_ret]
                  go_ret2
                  exact ⟨_, by rw [HN.out]; rfl, by rw [HN.out]; exact OwnOs.nil _ _, H7.out.bel⟩
              · by_cases h6 : a.kind = 6
                · have hbk : b.kind = 6 := by rw [← HAB.out]; exact h6
                  have HN := Lib.hid (HX.out.trans (pair_six CA.out CB.out HAB.out HS.out h6))
                  have HCC := Lib.hid (HC.out h6 hbk)
                  clear hab1 hab2 h5 h4
                  go_wp2_with (go_at_call 29; refine HE.out.mono ?_; rintro e w7 ⟨rfl, hq7⟩; have H7 := Lib.hid (H6.out.qt hq7); clear hq7 e0 e1 e2 e3 e4 e5 e6 e7 e8 e9 e10 f0 f1 f2 f3 f4 f5 f6 f7 f8 f9 f10; obtain ⟨⟨e0, e1, e2, e3, e4, e5, e6, e7, e8, e9, e10⟩, f0, f1, f2, f3, f4, f5, f6, f7, f8, f9, f10⟩ := H7.out.c; dsimp only at e0 e1 e2 e3 e4 e5 e6 e7 e8 e9 e10 f0 f1 f2 f3 f4 f5 f6 f7 f8 f9 f10)
                  go_at_call 36
                  refine (HCC.out.call _ _ _ H7.out.ca.pieces H7.out.cb.pieces).mono ?_
                  cases hc : C a.pieces b.pieces with
                  | none =>
                    rw [hc] at HN
                    clear hc
                    rintro e w9 ⟨r, err, rfl, he, ho9, hb9⟩
                    have he2 : (err == 0) = false := by simpa using he
                    have he3 : (err != 0) = true := by simpa using he
                    have H9 := Lib.hid (H7.out.next hb9)
                    clear he ho9 hb9
                    go_wp2_with fail
                    go_step3
                    refine ⟨rfl, ?_⟩
                    change Code.wp _ _ _ _ _
                    go_wp2_with fail
                    rw [Exit.noGoto_ret]
                    go_ret2
                    exact ⟨_, by rw [HN.out]; rfl, by rw [HN.out]; exact OwnOs.nil _ _, H9.out.bel⟩
                  | some l =>
                    rw [hc] at HN
                    have HLC := Lib.hid (HCC.out.lim _ hc)
                    clear hc
                    rintro e w9 ⟨r, err, rfl, he, ho9, hb9⟩
                    obtain rfl : err = 0 := by simpa using he
                    have H9 := Lib.hid (H7.out.next hb9)
                    obtain ⟨ra, rc, rfl⟩ := ho9.form
                    have HO9 := Lib.hid (ho9.mono (base' := w.heap.size) H7.out.bel.size)
                    clear he ho9 hb9 e0 e1 e2 e3 e4 e5 e6 e7 e8 e9 e10 f0 f1 f2 f3 f4 f5 f6 f7 f8 f9 f10
                    obtain ⟨⟨e0, e1, e2, e3, e4, e5, e6, e7, e8, e9, e10⟩, f0, f1, f2, f3, f4, f5, f6, f7, f8, f9, f10⟩ := H9.out.c
                    dsimp only at e0 e1 e2 e3 e4 e5 e6 e7 e8 e9 e10 f0 f1 f2 f3 f4 f5 f6 f7 f8 f9 f10 HO9
                    by_cases hl : l = []
                    · have hl1 : ((l.length : Int) == 0) = true := by rw [hl]; rfl
                      simp only [if_pos hl] at HN
                      clear hl
                      go_wp2_with fail
                      rw [jump_ret]
                      go_ret2
                      exact ⟨_, by rw [HN.out]; rfl, by rw [HN.out]; exact OwnOs.nil _ _, H9.out.bel⟩
                    · have hl1 : ((l.length : Int) == 0) = false := by simpa using hl
                      simp only [if_neg hl] at HN
                      clear hl
                      have hfz := H9.out.bb.frozen
                      have H10 := Lib.hid (H9.out.edit HA.out HB.out HO9.out HLC.out.2)
                      obtain ⟨bo, hbo⟩ : ∃ bo, bo = ({ b with pieces := l } : OpV) := ⟨_, rfl⟩
                      have hlim : Lim bo := by subst hbo; exact ⟨HLB.out.1, HLB.out.2.1, HLC.out.1⟩
                      have hfit : Fit bo.pieces := by subst hbo; exact HLC.out.2
                      have hfits : bo.Fits := by subst hbo; exact H10.out.cb.fits
                      have h7B : RdO (w9.setCell ⟨w.heap.size + 1, 10, none⟩ (.slice ra l.length rc)) (.agg #[.int .u8 6, p', .int .i64 b.gap, t', .int .u64 b.id, .bool b.leaf, .string b.label, .string b.key, .string b.val, .bool b.gone, .slice ra l.length rc]) bo := by
                        have := H10.out.opB
                        subst hbo
                        unfold OpV.at_ at this
                        dsimp only at this
                        rw [hbk] at this ⊢
                        exact this
                      rw [← hbo] at HN
                      have H7B := Lib.hid h7B
                      have HF7 := Lib.hid (And.intro hlim (And.intro hfit hfits))
                      clear h7B hlim hfit hfits hbo
                      go_wp2_with fail
                      go_at_call 35
                      refine (bare_any _ bo _ H7B.out HF7.out.1).mono ?_
                      rintro e w8 ⟨p8, t8, q8, he8, ho8, ht8, hp8, hb8⟩
                      unfold OpV.at_ at he8
                      subst he8
                      have HS8 := Lib.hid (And.intro (ho8.mono (Below.size H10.out.bel)) (And.intro (ht8.mono (Below.size H10.out.bel)) (hp8.mono (Below.size H10.out.bel))))
                      have HB8 := Lib.hid (bNext H10.out.bel hb8)
                      clear ho8 ht8 hp8 hb8
                      go_wp2_with fail
                      rw [jump_ret]
                      go_ret2
                      exact ⟨_, by rw [HN.out]; rfl, by rw [HN.out]; exact OwnOs.single HB8.out.size HS8.out.1 HS8.out.2.1 HS8.out.2.2 (bare_fit HF7.out.2.1) (bare_fits HF7.out.2.2), bAl HB8.out _⟩
                · have h61 : (a.kind == 6) = false := by simpa using h6
                  have h41 : (a.kind == 4) = false := by simpa using h4
                  have h51 : (a.kind == 5) = false := by simpa using h5
                  have HN := Lib.hid (HX.out.trans (pair_else CA.out CB.out HAB.out HS.out ⟨h4, h5, h6⟩))
                  rw [HAB.out] at h61 h41 h51
                  clear h4 h5 h6
                  go_wp2_with (go_at_call 29; refine HE.out.mono ?_; rintro e w7 ⟨rfl, hq7⟩; have H7 := Lib.hid (H6.out.qt hq7); clear hq7 e0 e1 e2 e3 e4 e5 e6 e7 e8 e9 e10 f0 f1 f2 f3 f4 f5 f6 f7 f8 f9 f10; obtain ⟨⟨e0, e1, e2, e3, e4, e5, e6, e7, e8, e9, e10⟩, f0, f1, f2, f3, f4, f5, f6, f7, f8, f9, f10⟩ := H7.out.c; dsimp only at e0 e1 e2 e3 e4 e5 e6 e7 e8 e9 e10 f0 f1 f2 f3 f4 f5 f6 f7 f8 f9 f10)
                  go_step3
                  refine ⟨rfl, ?_⟩
                  change Code.wp _ _ _ _ _
                  go_wp2_with fail
                  rw [Exit.noGoto_ret]
                  go_ret2
                  exact ⟨_, by rw [HN.out]; rfl, by rw [HN.out]; exact OwnOs.nil _ _, H7.out.bel⟩
        · have hab1 : (a.kind == b.kind) = false := by simpa using hab
          have hab2 : (a.kind != b.kind) = true := by simpa using hab
          have HN := Lib.hid (HX.out.trans (pair_apart CA.out CB.out H13.out (.inl hab)))
          clear hab
          go_wp2_with fail
          go_step3
          refine ⟨rfl, ?_⟩
          change Code.wp _ _ _ _ _
          go_wp2_with fail
          rw [Exit.noGoto_ret]
          go_ret2
          exact ⟨_, by rw [HN.out]; rfl, by rw [HN.out]; exact OwnOs.nil _ _, H6.out.bel⟩
end Go.Proofs.Ytciedipihfkbbaa
