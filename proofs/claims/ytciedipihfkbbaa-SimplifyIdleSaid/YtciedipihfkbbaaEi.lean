/- The maker's steps. -/
import Derived.Test.YtciedipihfkbbaaEh
import Derived.RegionTactic
import Derived.BigRegion
import Derived.Lib.BufferWrite
namespace Go.Proofs.Ytciedipihfkbbaa
open Go.RowKit

/-- The maker's block: its row, and how many bytes it has kept since. -/
def MkAt (base : Nat) (w : World) (g : Nat) (v : Value) (l : List Pc) (k : Int) : Prop := base ≤ g ∧ Bk w g 76 [v, .int .i64 k] ∧ OwnP base w v l

/-- But for the maker's block and its row all blocks are as they were; the row is the old one or a new block. -/
structure Fr (g : Nat) (v : Value) (w : World) (v' : Value) (w' : World) : Prop where
  size : w.heap.size ≤ w'.heap.size
  block : ∀ k, k < w.heap.size → k ≠ g → some k ≠ v.ownBlock → w'.heap[k]? = w.heap[k]?
  row : v'.ownBlock = v.ownBlock ∨ ∃ r, v'.ownBlock = some r ∧ w.heap.size ≤ r
theorem Fr.refl (g : Nat) (v : Value) (w : World) : Fr g v w v w := ⟨Nat.le_refl _, fun _ _ _ _ => rfl, .inl rfl⟩
theorem Fr.trans {g : Nat} {v v' v'' : Value} {w w' w'' : World} (h : Fr g v w v' w') (k : Fr g v' w' v'' w'') : Fr g v w v'' w'' := by
  refine ⟨Nat.le_trans h.size k.size, fun i hi hg hr => ?_, ?_⟩
  · rw [k.block i (Nat.lt_of_lt_of_le hi h.size) hg ?_, h.block i hi hg hr]
    rcases h.row with e | ⟨r, e, hr'⟩
    · rw [e]; exact hr
    · rw [e]; intro e2; injection e2 with e2; omega
  · rcases k.row with e | ⟨r, e, hr'⟩
    · rw [e]; exact h.row
    · exact .inr ⟨r, e, Nat.le_trans h.size hr'⟩
theorem Fr.below {g : Nat} {v v' : Value} {w w' w'' : World} (h : Fr g v w v' w') (hb : Below w'.heap.size w' w'') : Fr g v w v' w'' := h.trans ⟨hb.size, fun i hi _ _ => hb.block i hi, .inl rfl⟩
theorem Fr.qt {g : Nat} {v v' : Value} {w w' w'' : World} (h : Fr g v w v' w') (hb : Qt w' w'') : Fr g v w v' w'' := h.below (hb.below _)
theorem Fr.setG {g : Nat} {v v' : Value} {w w' : World} (h : Fr g v w v' w') (i : Nat) (u : Value) : Fr g v w v' (w'.setCell ⟨g, i, none⟩ u) :=
  h.trans ⟨(Lib.grownBy_setCell w' g i u).size, fun k hk hg _ => (Lib.grownBy_setCell w' g i u).block k hk (fun e => hg (by injection e)), .inl rfl⟩
theorem Fr.setRow {g b : Nat} {v v' : Value} {w w' : World} (h : Fr g v w v' w') (hv : v'.ownBlock = some b) (i : Nat) (u : Value) : Fr g v w v' (w'.setCell ⟨b, i, none⟩ u) :=
  h.trans ⟨(Lib.grownBy_setCell w' b i u).size, fun k hk _ hr => (Lib.grownBy_setCell w' b i u).block k hk (fun e => hr (by rw [hv, e])), .inl rfl⟩
theorem Fr.grown {g : Nat} {v v' v'' : Value} {w w' w'' : World} (h : Fr g v w v' w') (hg : w'.grownBy w'' v'.ownBlock) (ha : v''.ownBlock = v'.ownBlock ∨ v''.ownBlock = some w'.heap.size) : Fr g v w v'' w'' :=
  h.trans ⟨hg.size, fun k hk _ hr => hg.block k hk hr, ha.imp id fun e => ⟨_, e, Nat.le_refl _⟩⟩
theorem Fr.bk {g h : Nat} {v v' : Value} {w w' : World} {T : TypeId} {cs : List Value} (hF : Fr g v w v' w') (hB : Bk w h T cs) (hne : h ≠ g) (hr : v.ownBlock ≠ some h) : Bk w' h T cs := (hF.block h hB.lt hne (Ne.symm hr)).trans hB

/-- The row with a piece that goes on. -/
def lastS (l : List Pc) (k : Int) : List Pc × Int := if 0 < k ∨ l = [] then (l ++ [⟨k, 0, ⟨#[]⟩⟩], 0) else (l, k)
theorem lastS_pos (l : List Pc) (k : Int) : 0 < (lastS l k).1.length := by
  unfold lastS
  split
  · simp
  · rename_i h
    have : l ≠ [] := fun e => h (.inr e)
    exact List.length_pos_iff.2 this

theorem MkAt.below {base g : Nat} {w w' : World} {v : Value} {l : List Pc} {k : Int} (h : MkAt base w g v l k) (hb : Below w.heap.size w w') : MkAt base w' g v l k :=
  ⟨h.1, h.2.1.below hb h.2.1.lt, h.2.2.below hb⟩
theorem MkAt.qt {base g : Nat} {w w' : World} {v : Value} {l : List Pc} {k : Int} (h : MkAt base w g v l k) (hb : Qt w w') : MkAt base w' g v l k := h.below (hb.below _)
theorem bTo {base : Nat} {w w1 w2 : World} (h : Below base w w1) (hb : base ≤ w.heap.size) (k : Below w1.heap.size w1 w2) : Below base w w2 := h.trans (k.mono (Nat.le_trans hb h.size))

theorem bQt' {base : Nat} {w w1 w2 : World} (h : Below base w w1) (k : Qt w1 w2) : Below base w w2 := h.trans (k.below _)

theorem last_end {base g : Nat} {w W0 w2 : World} {v v2 : Value} {l l2 : List Pc} {k : Int} (hbg : base ≤ g) (hO : OwnP base w v l) (hB : Bk w g 76 [v, .int .i64 k])
    (hW : Below w.heap.size w W0) (hg : W0.grownBy w2 v.ownBlock) (hO2 : OwnP base w2 v2 l2) (ha : v2.ownBlock = v.ownBlock ∨ v2.ownBlock = some W0.heap.size) :
    MkAt base ((w2.setCell ⟨g, 0, none⟩ v2).setCell ⟨g, 1, none⟩ (.int .i64 0)) g v2 l2 0 ∧ Below base w ((w2.setCell ⟨g, 0, none⟩ v2).setCell ⟨g, 1, none⟩ (.int .i64 0)) ∧ Fr g v w v2 ((w2.setCell ⟨g, 0, none⟩ v2).setCell ⟨g, 1, none⟩ (.int .i64 0)) := by
  have hlt := hB.lt
  have hB2 : Bk w2 g 76 [v, .int .i64 k] := (hB.below hW hlt).grown hg (hO.not_block hB (by decide)).symm
  have hne : v2.ownBlock ≠ some g := hO2.not_block hB2 (by decide)
  have hb2 : Below base w w2 := (hW.mono (by omega)).grown hg (Nat.le_trans (by omega) hW.size) fun k hk => (World.ownsRow.lt hO k hk).1
  exact ⟨⟨hbg, (hB2.set_ 0 v2).set_ 1 _, ownsRow_setCell_other (ownsRow_setCell_other hO2 hne _) hne _⟩, (hb2.setCell hbg _).setCell hbg _, ((((Fr.refl g v w).below hW).grown hg ha).setG 0 _).setG 1 _⟩

/-- What 'last' leaves: the row's block, the last piece's place. -/
def LastPost (base : Nat) (w : World) (g : Nat) (v : Value) (l : List Pc) (k : Int) (e : Ending) (w' : World) : Prop :=
  ∃ b cap, e = .returned (.pointer (some ⟨b, ((lastS l k).1.length - 1) * 3, none⟩)) ∧ MkAt base w' g (.slice (some ⟨b, 0, none⟩) (lastS l k).1.length cap) (lastS l k).1 (lastS l k).2 ∧ Below base w w' ∧ Fr g v w (.slice (some ⟨b, 0, none⟩) (lastS l k).1.length cap) w'

set_option maxHeartbeats 3200000 in
set_option maxRecDepth 100000 in
theorem last_any (base g : Nat) (v : Value) (l : List Pc) (k : Int) (w : World) (h : MkAt base w g v l k) (hl : l.length ≤ 100000) (hk0 : 0 ≤ k) (hk1 : k ≤ 9223372036854775807) :
    Calls Try.prog 80 #[.pointer (some ⟨g, 0, none⟩)] w (LastPost base w g v l k) := by
  obtain ⟨hbg, hbk, hown⟩ := h
  have c0 := hbk.cell 0
  have c1 := hbk.cell 1
  have f0 := hbk.frozen 0
  have f1 := hbk.frozen 1
  simp only [List.getElem?_cons_zero, List.getElem?_cons_succ] at c0 c1
  obtain ⟨a, cap, rfl, hcapn⟩ : ∃ a cap, v = .slice a l.length cap ∧ (∀ b, (Value.slice a l.length cap).ownBlock = some b → a = some ⟨b, 0, none⟩) := by
    rcases Joins.ownsRow_forms hown with ⟨rfl, h0⟩ | ⟨b, cap, rfl⟩
    · exact ⟨none, 0, by rw [h0], fun b h => by simp [Value.ownBlock] at h⟩
    · exact ⟨some ⟨b, 0, none⟩, cap, rfl, fun b' h => by simp [Value.ownBlock] at h; rw [h]⟩
  have hlt := hbk.lt
  have HN := Lib.hid (hown.not_block hbk (by decide))
  have HO := Lib.hid hown
  have HB := Lib.hid hbk
  have HM := Lib.hid hcapn
  clear hown hbk hcapn
  by_cases hc : 0 < k ∨ l = []
  · have hS : lastS l k = (l ++ [⟨k, 0, ⟨#[]⟩⟩], 0) := if_pos hc
    have HS := Lib.hid hS
    clear hS
    have hc' : 0 < k ∧ True ∨ ¬ (0 < k) ∧ l.length = 0 := by
      rcases hc with h | rfl
      · exact .inl ⟨h, trivial⟩
      · by_cases 0 < k
        · exact .inl ⟨‹_›, trivial⟩
        · exact .inr ⟨‹_›, rfl⟩
    clear hc
    have hlen : (l ++ [(⟨k, 0, ⟨#[]⟩⟩ : Pc)]).length = l.length + 1 := by simp
    have HL := Lib.hid hlen
    clear hlen
    rcases hc' with ⟨hc, hl0⟩ | ⟨hc, hl0⟩
    all_goals
      go_enter Try.func80, Try.ntmps80
      go_wp2_with fail
      clear hl0
      go_region_law (refine step_appP rfl (.tmp 20) (.tmp 26) rfl base _ l (by simp [Act.eval, Act.put]) (HO.out.below (bAl (bQt (Below.refl _ _) ⟨_, rfl⟩) _)) _ [⟨k, 0, ⟨#[]⟩⟩] (by simp [Act.eval, Act.put]) (RdcP.one _ _) (by simp; omega) (by simp; omega) ?_; intro v2 w2 hown2 hg2 hat2; obtain ⟨b2, cap2, rfl⟩ := Joins.ownsRow_form hown2 (by simp); have hbk2 := (HB.out.below (bAl (bQt (Below.refl _ _) ⟨_, rfl⟩) _) HB.out.lt).grown hg2 HN.out.symm; have c0' := hbk2.cell 0; have c1' := hbk2.cell 1; have f0' := hbk2.frozen 0; have f1' := hbk2.frozen 1; simp only [List.getElem?_cons_zero, List.getElem?_cons_succ] at c0' c1'; have HO2 := Lib.hid hown2; have HB2 := Lib.hid hbk2; have HG2 := Lib.hid hg2; have HA2 := Lib.hid hat2; clear hown2 hbk2 hg2 hat2)
      go_wp2_with fail
      all_goals
        have hE := last_end hbg HO.out HB.out (bAl (bQt (Below.refl _ _) ⟨_, rfl⟩) _) HG2.out HO2.out HA2.out
        rw [HL.out] at hE
        have HE := Lib.hid hE
        clear hE
        have hw1 : IntKind.i64.wrap (((l.length : Nat) : Int) + 1 - 1) = l.length := (IntWalk.i64_in _ (by omega)).trans (by omega)
        go_quiet (fail)
        go_wp2_with fail
        go_ret
        refine ⟨b2, cap2, ?_, ?_, ?_, ?_⟩
        · rw [HS.out, HL.out]; simp
        · rw [HS.out, HL.out]; exact HE.out.1.qt ⟨_, rfl⟩
        · exact bQt' HE.out.2.1 ⟨_, rfl⟩
        · rw [HS.out, HL.out]; exact HE.out.2.2.qt ⟨_, rfl⟩
  · have hS : lastS l k = (l, k) := if_neg hc
    have HS := Lib.hid hS
    clear hS
    have hk2 : ¬ (0 < k) := fun h => hc (.inl h)
    have hl1 : 0 < l.length := List.length_pos_iff.2 fun e => hc (.inr e)
    obtain ⟨b, cap', e⟩ := Joins.ownsRow_form HO.out hl1
    obtain ⟨rfl, -, -⟩ := Value.slice.inj e
    clear hc e
    have hw1 : IntKind.i64.wrap (((l.length : Nat) : Int) - 1) = ((l.length - 1 : Nat) : Int) := (IntWalk.i64_in _ (by omega)).trans (by omega)
    go_enter Try.func80, Try.ntmps80
    go_wp2_with fail
    go_quiet (fail)
    go_wp2_with fail
    go_ret
    refine ⟨b, cap, ?_, ?_, ?_, ?_⟩
    · rw [HS.out]; simp
    · rw [HS.out]; exact MkAt.qt ⟨hbg, HB.out, HO.out⟩ ⟨_, rfl⟩
    · exact bQt' (Below.refl _ _) ⟨_, rfl⟩
    · rw [HS.out]; exact (Fr.refl _ _ _).qt ⟨_, rfl⟩
end Go.Proofs.Ytciedipihfkbbaa
