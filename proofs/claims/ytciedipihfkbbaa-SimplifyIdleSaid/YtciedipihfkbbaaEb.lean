/- Operations in memory; what is light. -/
import Derived.Test.YtciedipihfkbbaaEa
import Derived.Test.YtciedipihfkbbaaD
namespace Go.Proofs.Ytciedipihfkbbaa
open Go.RowKit

theorem bNext {w w1 w2 : World} (h : Below w.heap.size w w1) (k : Below w1.heap.size w1 w2) : Below w.heap.size w w2 := h.trans (k.mono h.size)
theorem bAl {w w1 : World} (h : Below w.heap.size w w1) (o : Obj) : Below w.heap.size w (w1.alloc o) := h.alloc h.size o
theorem bQt {w w1 w2 : World} (h : Below w.heap.size w w1) (k : Qt w1 w2) : Below w.heap.size w w2 := h.trans (k.below _)
theorem bAlD (w : World) (o : Obj) (n : Nat) : Below w.heap.size w ((w.alloc o).drewN n) := bQt (bAl (Below.refl _ _) o) ⟨n, rfl⟩

theorem RdP.keep {w w' : World} {v : Value} {l : List Pc} (h : RdP w v l) (hk : ∀ b o, b < w.heap.size → w'.cell? ⟨b, o, none⟩ = w.cell? ⟨b, o, none⟩) : RdP w' v l := by
  obtain ⟨a, cap, rfl, hcap, hb, hn, hc⟩ := h
  refine ⟨a, cap, rfl, hcap, hb, hn, fun j hj => ?_⟩
  obtain ⟨b, o, rfl, h1, h2, h3, h4⟩ := hc j hj
  exact ⟨b, o, rfl, (hk _ _ (lt_of_cell h1)).trans h1, (hk _ _ (lt_of_cell h2)).trans h2, (hk _ _ (lt_of_cell h3)).trans h3, h4⟩
theorem RdP.below {w w' : World} {v : Value} {l : List Pc} (h : RdP w v l) (hb : Below w.heap.size w w') : RdP w' v l := h.keep fun _ _ hlt => hb.cell (p := ⟨_, _, none⟩) hlt
theorem RdP.qt {w w' : World} {v : Value} {l : List Pc} (h : RdP w v l) (hb : Qt w w') : RdP w' v l := h.below (hb.below _)
theorem RdP.alloc {w : World} {v : Value} {l : List Pc} (h : RdP w v l) (o : Obj) : RdP (w.alloc o) v l := h.below ((Below.refl _ _).alloc (Nat.le_refl _) o)

/-- An operation. -/
structure OpV where
  kind : Int
  path : List Int
  gap : Int
  to : List Int
  id : Int
  leaf : Bool
  label : ByteArray
  key : ByteArray
  val : ByteArray
  gone : Bool
  pieces : List Pc

/-- The value of an operation, its rows at three values. -/
def OpV.at_ (o : OpV) (p t q : Value) : Value :=
  .agg #[.int .u8 o.kind, p, .int .i64 o.gap, t, .int .u64 o.id, .bool o.leaf, .string o.label, .string o.key, .string o.val, .bool o.gone, q]

/-- What the numbers and texts of an operation keep to. -/
structure OpV.Fits (o : OpV) : Prop where
  k0 : 0 ≤ o.kind
  k1 : o.kind ≤ 255
  g0 : -9223372036854775808 ≤ o.gap
  g1 : o.gap ≤ 9223372036854775807
  l1 : o.label.size ≤ 9223372036854775807
  l2 : o.key.size ≤ 9223372036854775807
  l3 : o.val.size ≤ 9223372036854775807

/-- The value reads as the operation. -/
def RdO (w : World) (v : Value) (o : OpV) : Prop := ∃ p t q, v = o.at_ p t q ∧ Rd w p o.path ∧ Rd w t o.to ∧ RdP w q o.pieces ∧ o.Fits
theorem RdO.below {w w' : World} {v : Value} {o : OpV} (h : RdO w v o) (hb : Below w.heap.size w w') : RdO w' v o := by
  obtain ⟨p, t, q, rfl, h1, h2, h3, h4⟩ := h
  exact ⟨p, t, q, rfl, h1.below hb, h2.below hb, h3.below hb, h4⟩
theorem RdO.qt {w w' : World} {v : Value} {o : OpV} (h : RdO w v o) (hb : Qt w w') : RdO w' v o := h.below (hb.below _)

/-- Do the texts that are put hold so much at most? -/
def putsGo (r : Int) : List Pc → Bool
  | [] => true
  | p :: t => decide ((p.put.size : Int) ≤ r) && putsGo (r - p.put.size) t
theorem putsGo_yes {r : Int} {l : List Pc} {k : Nat} (h : k < l.length) (h1 : (l[k].put.size : Int) ≤ r) : putsGo r (l.drop k) = putsGo (r - l[k].put.size) (l.drop (k + 1)) := by
  rw [drop_cons l k h, putsGo, decide_eq_true h1]; simp
theorem putsGo_no {r : Int} {l : List Pc} {k : Nat} (h : k < l.length) (hn : ¬ ((l[k].put.size : Int) ≤ r)) : putsGo r (l.drop k) = false := by
  rw [drop_cons l k h, putsGo, decide_eq_false hn]; rfl

def lightHead (o : OpV) (top : Int) : Bool := decide ((o.path.length : Int) ≤ top) && decide ((o.to.length : Int) ≤ top) && decide ((o.label.size : Int) ≤ top) && decide ((o.key.size : Int) ≤ top) && decide ((o.val.size : Int) ≤ top) && decide ((o.pieces.length : Int) ≤ top)
def lightB (o : OpV) (top : Int) : Bool := lightHead o top && putsGo top o.pieces

set_option maxHeartbeats 3200000 in
theorem light_any (v : Value) (o : OpV) (top : Int) (w : World) (h : RdO w v o) (ht : 0 ≤ top) (ht' : top ≤ 1000) :
    Calls Try.prog 24 #[v, .int .i64 top] w fun e w' => e = .returned (.bool (lightB o top)) ∧ Below w.heap.size w w' := by
  obtain ⟨p, t, q, rfl, ⟨pa, pc, rfl, hpc, hpb, hpn, -⟩, ⟨ta, tc, rfl, htc, htb, htn, -⟩, hQ, hF⟩ := h
  obtain ⟨k0, k1, g0, g1, l1, l2, l3⟩ := hF
  obtain ⟨kind, path, gap, to, id, leaf, label, key, val, gone, pieces⟩ := o
  simp only [OpV.at_] at *
  have hQ' := hQ
  obtain ⟨qa, qc, rfl, hqc, hqb, hqn, -⟩ := hQ'
  obtain ⟨_, _, e, -, -, -, hq⟩ := hQ.alloc (.cells #[.int .u8 kind, .slice pa path.length pc, .int .i64 gap, .slice ta to.length tc, .int .u64 id, .bool leaf, .string label, .string key, .string val, .bool gone, .slice qa pieces.length qc] 26)
  obtain ⟨rfl, -, rfl⟩ := Value.slice.inj e
  clear e hQ
  by_cases hh : (path.length : Int) ≤ top ∧ (to.length : Int) ≤ top ∧ (label.size : Int) ≤ top ∧ (key.size : Int) ≤ top ∧ (val.size : Int) ≤ top ∧ (pieces.length : Int) ≤ top
  · obtain ⟨c1, c2, c3, c4, c5, c6⟩ := hh
    go_enter Try.func24, Try.ntmps24
    go_wp2_with fail
    go_loopw [5, 6] (fun n i w' => ∃ (k : Nat) (q : Int), k ≤ pieces.length ∧ i = .int .i64 k ∧ n = .int .i64 q ∧ 0 ≤ q ∧ q ≤ top ∧ putsGo top pieces = putsGo (top - q) (pieces.drop k) ∧ Qt (w.alloc (.cells #[.int .u8 kind, .slice pa path.length pc, .int .i64 gap, .slice ta to.length tc, .int .u64 id, .bool leaf, .string label, .string key, .string val, .bool gone, .slice qa pieces.length qc] 26)) w') (fun _ i _ => pieces.length - (intOf i).toNat)
    case atStart => exact ⟨0, 0, Nat.zero_le _, rfl, rfl, by omega, by omega, by rw [Int.sub_zero, List.drop_zero], Qt.refl _⟩
    case round =>
      obtain ⟨k, r, hk, rfl, rfl, hq0, hq1, hgo, n0, rfl⟩ := hrel
      have HG := Lib.hid hgo
      clear hgo
      by_cases h1 : k < pieces.length
      · obtain ⟨b, o, rfl, hc1, hc2, hc3, hb1, hb2, hb3, hb4, hb5⟩ := hq k h1
        have HY := Lib.hid (@putsGo_yes (top - r) pieces k h1)
        have HN := Lib.hid (@putsGo_no (top - r) pieces k h1)
        generalize pieces[k].put = pp at *
        clear hq
        by_cases f1 : (pp.size : Int) ≤ top - r
        · go_wp2_with fail
          go_roundw
          case rel => exact ⟨k + 1, r + pp.size, by omega, by go_num, by go_num, by omega, by omega, by rw [HG.out, HY.out (by omega)]; congr 1; omega, ⟨_, rfl⟩⟩
          case measure => simp [intOf]; omega
        · go_wp2_with fail
          go_ret
          exact ⟨ret_bool (by rw [lightB, HG.out, HN.out (by omega), Bool.and_false]), bAlD w _ _⟩
      · go_wp2_with fail
        go_ret
        refine ⟨ret_bool ?_, bAlD w _ _⟩
        rw [lightB, lightHead, decide_eq_true c1, decide_eq_true c2, decide_eq_true c3, decide_eq_true c4, decide_eq_true c5, decide_eq_true c6, HG.out, List.drop_of_length_le (by omega)]; rfl
  · have hd : lightHead ⟨kind, path, gap, to, id, leaf, label, key, val, gone, pieces⟩ top = false := by
      rw [← Bool.not_eq_true, lightHead]; simp only [Bool.and_eq_true, decide_eq_true_eq]; intro h; exact hh ⟨h.1.1.1.1.1, h.1.1.1.1.2, h.1.1.1.2, h.1.1.2, h.1.2, h.2⟩
    have HD := Lib.hid hd
    clear hd
    by_cases c1 : (path.length : Int) ≤ top <;> by_cases c2 : (to.length : Int) ≤ top <;> by_cases c3 : (label.size : Int) ≤ top <;> by_cases c4 : (key.size : Int) ≤ top <;> by_cases c5 : (val.size : Int) ≤ top
    all_goals
      go_enter Try.func24, Try.ntmps24
      go_wp2_with fail
      go_ret
      exact ⟨ret_bool (by rw [lightB, HD.out]; rfl), bAl (Below.refl _ _) _⟩
end Go.Proofs.Ytciedipihfkbbaa
