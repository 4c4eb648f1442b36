/- The maker puts, drops, and does what a piece says. -/
import Derived.Test.YtciedipihfkbbaaEi
namespace Go.Proofs.Ytciedipihfkbbaa
open Go.RowKit

/-- The maker with a text put. -/
def putS (s : ByteArray) (m : List Pc × Int) : List Pc × Int :=
  if s.size = 0 then m else ((lastS m.1 m.2).1.modify ((lastS m.1 m.2).1.length - 1) fun p => ⟨p.keep, p.drop, p.put ++ s⟩, (lastS m.1 m.2).2)
/-- The maker with bytes dropped. -/
def dropS (n : Int) (m : List Pc × Int) : List Pc × Int :=
  if n ≤ 0 then m else ((lastS m.1 m.2).1.modify ((lastS m.1 m.2).1.length - 1) fun p => ⟨p.keep, p.drop + n, p.put⟩, (lastS m.1 m.2).2)
def pieceS (p : Pc) (m : List Pc × Int) : List Pc × Int := dropS p.drop (putS p.put (m.1, m.2 + p.keep))

theorem modify_last (l : List Pc) (h : 0 < l.length) (f : Pc → Pc) : l.modify (l.length - 1) f = l.set (l.length - 1) (f (l[l.length - 1]'(by omega))) := by
  apply List.ext_getElem?
  intro j
  rw [List.getElem?_modify, List.getElem?_set]
  by_cases hj : l.length - 1 = j
  · subst hj
    rw [if_pos rfl, if_pos (by omega), List.getElem?_eq_getElem (by omega)]; simp
  · rw [if_neg hj]; simp [hj]

section
variable {base g b cap : Nat} {w : World} {l : List Pc} {k : Int}
theorem MkAt.row (h : MkAt base w g (.slice (some ⟨b, 0, none⟩) l.length cap) l k) (hp : 0 < l.length) :
    w.cell? ⟨b, (l.length - 1) * 3 + 1, none⟩ = some (.int .i64 (l[l.length - 1]'(by omega)).drop) ∧ w.cell? ⟨b, (l.length - 1) * 3 + 2, none⟩ = some (.string (l[l.length - 1]'(by omega)).put) ∧
      w.frozen? ⟨b, (l.length - 1) * 3 + 1, none⟩ = false ∧ w.frozen? ⟨b, (l.length - 1) * 3 + 2, none⟩ = false := by
  have hO : w.ownsRow base _ 3 _ l.length (PcCells l) := h.2.2
  have hc := PcCells_at l (l.length - 1) (by omega)
  exact ⟨(hO.cellAt _ (by omega)).trans hc.2.1, (hO.cellAt _ (by omega)).trans hc.2.2, hO.frozenAt _, hO.frozenAt _⟩
theorem MkAt.stored (h : MkAt base w g (.slice (some ⟨b, 0, none⟩) l.length cap) l k) (i : Nat) (u : Value) (l' : List Pc) (hl : l'.length = l.length) (he : (PcCells l).set i u = PcCells l') :
    MkAt base (w.setCell ⟨b, i, none⟩ u) g (.slice (some ⟨b, 0, none⟩) l.length cap) l' k ∧ Below base w (w.setCell ⟨b, i, none⟩ u) := by
  obtain ⟨hbg, hB, hO⟩ := h
  have hne := hO.not_block hB (by decide)
  have hO' : w.ownsRow base _ 3 _ l.length (PcCells l) := hO
  have hs := hO'.stored i u
  have hlt := World.ownsRow.lt hO' b (by simp [Value.ownBlock])
  refine ⟨⟨hbg, hB.grown hs.2 (fun e => hne (by rw [e]; simp [Value.ownBlock])), ?_⟩, (Below.refl base w).setCell hlt.1 _⟩
  unfold OwnP
  rw [hl, ← he]
  exact hs.1
end

/-- The maker behind a step. -/
def MkPost (base : Nat) (w : World) (g : Nat) (v : Value) (m : List Pc × Int) (e : Ending) (w' : World) : Prop := e = .returned (.tuple #[]) ∧ (∃ v', MkAt base w' g v' m.1 m.2 ∧ Fr g v w v' w') ∧ Below base w w'

set_option maxHeartbeats 3200000 in
set_option maxRecDepth 100000 in
theorem put_any (base g : Nat) (v : Value) (l : List Pc) (k : Int) (s : ByteArray) (w : World) (h : MkAt base w g v l k) (hl : l.length ≤ 100000) (hk0 : 0 ≤ k) (hk1 : k ≤ 9223372036854775807)
    (hs : ∀ p ∈ (lastS l k).1, p.put.size + s.size ≤ 9223372036854775807) :
    Calls Try.prog 58 #[.pointer (some ⟨g, 0, none⟩), .string s] w (MkPost base w g v (putS s (l, k))) := by
  have H := Lib.hid h
  have HS := Lib.hid hs
  clear h hs
  by_cases h0 : s.toList.isEmpty = true
  · have h1 : s.size = 0 := by rw [toList_emp, decide_eq_true_eq] at h0; exact h0
    have HP := Lib.hid (show putS s (l, k) = (l, k) from if_pos h1)
    clear h1
    go_enter Try.func58, Try.ntmps58
    go_wp2_with fail
    go_end0
    exact ⟨rfl, by rw [HP.out]; exact ⟨_, H.out, Fr.refl _ _ _⟩, Below.refl _ _⟩
  · have h1 : ¬ s.size = 0 := by rw [toList_emp, decide_eq_true_eq] at h0; exact h0
    have HP := Lib.hid (show putS s (l, k) = _ from if_neg h1)
    have hpos := lastS_pos l k
    clear h1
    go_enter Try.func58, Try.ntmps58
    go_wp2_with fail
    go_at_call 80
    refine (last_any _ _ _ _ _ _ H.out hl hk0 hk1).mono ?_
    rintro e w1 ⟨b, cap, rfl, hm, hb, hfr⟩
    have HF := Lib.hid hfr
    clear hfr
    have HB := Lib.hid hb
    have HM := Lib.hid hm
    clear hb hm
    obtain ⟨d1, d2, d3, d4⟩ := HM.out.row hpos
    have HL := Lib.hid (modify_last _ hpos)
    have HT := Lib.hid (PcCells_put (lastS l k).1 ((lastS l k).1.length - 1) (by omega))
    have HQ := Lib.hid (HS.out _ (List.getElem_mem (l := (lastS l k).1) (n := (lastS l k).1.length - 1) (by omega)))
    generalize (lastS l k).1[(lastS l k).1.length - 1]'(by omega) = pp at *
    generalize hn : (lastS l k).1.length - 1 = n at *
    have hsz := HQ.out
    go_wp2_with fail
    go_end0
    obtain ⟨hE1, hE2⟩ := HM.out.stored _ _ _ (by rw [List.length_set]) (HT.out _)
    exact ⟨rfl, by rw [HP.out, HL.out]; exact ⟨_, hE1, HF.out.setRow (by simp [Value.ownBlock]) _ _⟩, HB.out.trans hE2⟩

set_option maxHeartbeats 3200000 in
set_option maxRecDepth 100000 in
theorem drop_any (base g : Nat) (v : Value) (l : List Pc) (k : Int) (s : Int) (w : World) (h : MkAt base w g v l k) (hl : l.length ≤ 100000) (hk0 : 0 ≤ k) (hk1 : k ≤ 9223372036854775807)
    (hs : 0 < s → ∀ p ∈ (lastS l k).1, 0 ≤ p.drop ∧ p.drop + s ≤ 9223372036854775807) :
    Calls Try.prog 62 #[.pointer (some ⟨g, 0, none⟩), .int .i64 s] w (MkPost base w g v (dropS s (l, k))) := by
  have H := Lib.hid h
  have HS := Lib.hid hs
  clear h hs
  by_cases h0 : s ≤ 0
  · have HP := Lib.hid (show dropS s (l, k) = (l, k) from if_pos h0)
    go_enter Try.func62, Try.ntmps62
    go_wp2_with fail
    go_end0
    exact ⟨rfl, by rw [HP.out]; exact ⟨_, H.out, Fr.refl _ _ _⟩, Below.refl _ _⟩
  · have HP := Lib.hid (show dropS s (l, k) = _ from if_neg h0)
    have hpos := lastS_pos l k
    go_enter Try.func62, Try.ntmps62
    go_wp2_with fail
    go_at_call 80
    refine (last_any _ _ _ _ _ _ H.out hl hk0 hk1).mono ?_
    rintro e w1 ⟨b, cap, rfl, hm, hb, hfr⟩
    have HF := Lib.hid hfr
    clear hfr
    have HB := Lib.hid hb
    have HM := Lib.hid hm
    clear hb hm
    obtain ⟨d1, d2, d3, d4⟩ := HM.out.row hpos
    have HL := Lib.hid (modify_last _ hpos)
    have HT := Lib.hid (PcCells_drop (lastS l k).1 ((lastS l k).1.length - 1) (by omega))
    have HQ := Lib.hid (HS.out (by omega) _ (List.getElem_mem (l := (lastS l k).1) (n := (lastS l k).1.length - 1) (by omega)))
    generalize (lastS l k).1[(lastS l k).1.length - 1]'(by omega) = pp at *
    generalize hn : (lastS l k).1.length - 1 = n at *
    obtain ⟨hq1, hq2⟩ := HQ.out
    go_wp2_with fail
    go_end0
    obtain ⟨hE1, hE2⟩ := HM.out.stored _ _ _ (by rw [List.length_set]) (HT.out _)
    exact ⟨rfl, by rw [HP.out, HL.out]; exact ⟨_, hE1, HF.out.setRow (by simp [Value.ownBlock]) _ _⟩, HB.out.trans hE2⟩

/-- What a piece asks of the maker that does it. -/
structure Able (p : Pc) (l : List Pc) (k : Int) : Prop where
  k0 : 0 ≤ k
  a0 : 0 ≤ p.keep
  k1 : k + p.keep ≤ 9223372036854775807
  l1 : (putS p.put (l, k + p.keep)).1.length ≤ 100000
  s1 : ∀ x ∈ (lastS l (k + p.keep)).1, x.put.size + p.put.size ≤ 9223372036854775807
  s2 : 0 < p.drop → ∀ x ∈ (lastS (putS p.put (l, k + p.keep)).1 (putS p.put (l, k + p.keep)).2).1, 0 ≤ x.drop ∧ x.drop + p.drop ≤ 9223372036854775807

theorem putS_k (s : ByteArray) (m : List Pc × Int) : (putS s m).2 = m.2 ∨ (putS s m).2 = 0 := by
  unfold putS lastS
  split
  · exact .inl rfl
  · split
    · exact .inr rfl
    · exact .inl rfl
theorem putS_len (s : ByteArray) (m : List Pc × Int) : m.1.length ≤ (putS s m).1.length ∧ (putS s m).1.length ≤ m.1.length + 1 := by
  unfold putS lastS
  split
  · omega
  · split <;> simp
theorem dropS_len (s : Int) (m : List Pc × Int) : m.1.length ≤ (dropS s m).1.length ∧ (dropS s m).1.length ≤ m.1.length + 1 := by
  unfold dropS lastS
  split
  · omega
  · split <;> simp

theorem MkAt.keep {base g : Nat} {w : World} {v : Value} {l : List Pc} {k : Int} (h : MkAt base w g v l k) (k' : Int) : MkAt base (w.setCell ⟨g, 1, none⟩ (.int .i64 k')) g v l k' ∧ Below base w (w.setCell ⟨g, 1, none⟩ (.int .i64 k')) :=
  ⟨⟨h.1, h.2.1.set_ 1 _, ownsRow_setCell_other h.2.2 (h.2.2.not_block h.2.1 (by decide)) _⟩, (Below.refl _ _).setCell h.1 _⟩
theorem piece_start {base g : Nat} {w : World} {v : Value} {l : List Pc} {k : Int} (h : MkAt base w g v l k) (k' : Int) (p : Pc) :
    ∃ W, ((w.setCell ⟨g, 1, none⟩ (.int .i64 k')).alloc (.cells #[.int .i64 p.keep, .int .i64 p.drop, .string p.put] 35)).drew = W ∧ MkAt base W g v l k' ∧ Bk W w.heap.size 35 (PcCells [p]) ∧ Below base w W ∧ Fr g v w v W := by
  have hlt := h.2.1.lt
  have hbg := h.1
  obtain ⟨h1, h2⟩ := h.keep k'
  have hz : (w.setCell ⟨g, 1, none⟩ (.int .i64 k')).heap.size = w.heap.size := by simp
  have hal : Below (w.setCell ⟨g, 1, none⟩ (.int .i64 k')).heap.size (w.setCell ⟨g, 1, none⟩ (.int .i64 k')) ((w.setCell ⟨g, 1, none⟩ (.int .i64 k')).alloc (.cells #[.int .i64 p.keep, .int .i64 p.drop, .string p.put] 35)).drew := bQt (bAl (Below.refl _ _) _) ⟨1, rfl⟩
  refine ⟨_, rfl, h1.below hal, ?_, bTo h2 (by omega) hal, ((Fr.refl g v w).setG 1 _).below hal⟩
  have hb := Bk.new (w.setCell ⟨g, 1, none⟩ (.int .i64 k')) 35 (PcCells [p])
  rw [hz] at hb
  exact hb

set_option maxHeartbeats 3200000 in
set_option maxRecDepth 100000 in
theorem piece_any (base g : Nat) (v : Value) (l : List Pc) (k : Int) (p : Pc) (w : World) (h : MkAt base w g v l k) (hp : Able p l k) :
    Calls Try.prog 79 #[.pointer (some ⟨g, 0, none⟩), .agg #[.int .i64 p.keep, .int .i64 p.drop, .string p.put]] w (MkPost base w g v (pieceS p (l, k))) := by
  have hbg := h.1
  have hlt := h.2.1.lt
  obtain ⟨W, eW, hM, hB, hT, hF⟩ := piece_start h (k + p.keep) p
  have EW := Lib.hid eW
  have HM := Lib.hid hM
  have HB := Lib.hid hB
  have HT := Lib.hid hT
  have HF := Lib.hid hF
  have HN := Lib.hid (show v.ownBlock ≠ some w.heap.size from fun e => by have := (World.ownsRow.lt h.2.2 _ e).2; omega)
  have c1 := h.2.1.cell 1
  have f1 := h.2.1.frozen 1
  simp only [List.getElem?_cons_zero, List.getElem?_cons_succ] at c1
  have k0 := hp.k0
  have a0 := hp.a0
  have k1 := hp.k1
  have HP := Lib.hid hp
  clear h hp eW hM hB hT hF
  have hw : IntKind.i64.wrap (k + p.keep) = k + p.keep := IntWalk.i64_in _ (by omega)
  go_enter Try.func79, Try.ntmps79
  go_wp2_with fail
  go_region
  rw [EW.out]
  obtain ⟨e1, e2, e3⟩ : W.cell? ⟨w.heap.size, 0, none⟩ = some (.int .i64 p.keep) ∧ W.cell? ⟨w.heap.size, 1, none⟩ = some (.int .i64 p.drop) ∧ W.cell? ⟨w.heap.size, 2, none⟩ = some (.string p.put) := ⟨HB.out.cell 0, HB.out.cell 1, HB.out.cell 2⟩
  go_wp2_with fail
  go_at_call 58
  have hl1 := HP.out.l1
  have hl2 := (putS_len p.put (l, k + p.keep)).1
  refine (put_any _ _ _ _ _ _ _ HM.out (by simp only at hl2; omega) (by omega) (by omega) HP.out.s1).mono ?_
  rintro e w2 ⟨rfl, ⟨v2, hm2, hf2⟩, hb2⟩
  have HB2 := Lib.hid (hf2.bk HB.out (by omega) HN.out)
  have HM2 := Lib.hid hm2
  have HF2 := Lib.hid (HF.out.trans hf2)
  have HT2 := Lib.hid (HT.out.trans hb2)
  clear hm2 hf2 hb2
  clear e1 e2 e3
  obtain ⟨e1, e2, e3⟩ : w2.cell? ⟨w.heap.size, 0, none⟩ = some (.int .i64 p.keep) ∧ w2.cell? ⟨w.heap.size, 1, none⟩ = some (.int .i64 p.drop) ∧ w2.cell? ⟨w.heap.size, 2, none⟩ = some (.string p.put) := ⟨HB2.out.cell 0, HB2.out.cell 1, HB2.out.cell 2⟩
  have hk2 : 0 ≤ (putS p.put (l, k + p.keep)).2 ∧ (putS p.put (l, k + p.keep)).2 ≤ 9223372036854775807 := by
    rcases putS_k p.put (l, k + p.keep) with h | h <;> rw [h] <;> (try simp only) <;> omega
  have HK2 := Lib.hid hk2
  clear hk2 hl1 hl2
  go_wp2_with fail
  go_at_call 62
  refine (drop_any _ _ _ (putS p.put (l, k + p.keep)).1 (putS p.put (l, k + p.keep)).2 _ _ HM2.out HP.out.l1 HK2.out.1 HK2.out.2 HP.out.s2).mono ?_
  rintro e w3 ⟨rfl, ⟨v3, hm3, hf3⟩, hb3⟩
  have HE := Lib.hid (And.intro hm3 (And.intro (HF2.out.trans hf3) (HT2.out.trans hb3)))
  clear hm3 hf3 hb3
  go_wp2_with fail
  go_end0
  exact ⟨rfl, ⟨v3, HE.out.1, HE.out.2.1⟩, HE.out.2.2⟩
end Go.Proofs.Ytciedipihfkbbaa
