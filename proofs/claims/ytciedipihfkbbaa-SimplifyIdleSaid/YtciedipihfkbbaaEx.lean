/- The chapter's examples of layer 10. -/
import Derived.Test.YtciedipihfkbbaaEw
namespace Go.Proofs.Ytciedipihfkbbaa
open Go.RowKit

theorem RdOs.new {w : World} (rs : List OpR) (h : ∀ r ∈ rs, Came w r.o r.p r.t r.q) (hl : rs.length ≤ 1000) : RdOs (w.alloc (.cells (OsCells rs).toArray 26)) (.slice (some ⟨w.heap.size, 0, none⟩) rs.length rs.length) (rs.map fun r => r.o) := by
  refine ⟨rs, rfl, ⟨OsCells_len rs, _, _, rfl, Nat.le_refl _, by omega, fun h => by simp at h, fun j u hu => ⟨_, _, rfl, ?_⟩⟩, fun r hr => (h r hr).below (bAl (Below.refl _ _) _)⟩
  have hk := (Bk.new w 26 (OsCells rs)).cell j
  rw [Nat.zero_add]
  exact hk.trans hu
def emp : ByteArray := ⟨#[]⟩
theorem Came.plain {w : World} {o : OpV} {p : Value} (hp : Rd w p o.path) (ht : o.to = []) (hq : o.pieces = []) (hF : o.Fits) : Came w o p (.slice none 0 0) (.slice none 0 0) := by
  refine ⟨hp, ?_, ?_, hF⟩
  · rw [ht]; exact ⟨none, 0, rfl, Nat.le_refl _, by omega, fun _ => rfl, fun j hj => by simp at hj⟩
  · rw [hq]; exact ⟨none, 0, rfl, Nat.le_refl _, by omega, fun _ => rfl, fun j hj => by simp at hj⟩
theorem Rd.empty (w : World) : Rd w (.slice none 0 0) [] := ⟨none, 0, rfl, Nat.le_refl _, by omega, fun _ => rfl, fun j hj => by simp at hj⟩
def Cno : List Pc → List Pc → Option (List Pc) := fun _ _ => none

def exA : List OpV := [⟨5, [0], 0, [], 0, false, ⟨#[97]⟩, ⟨#[]⟩, ⟨#[]⟩, false, []⟩, ⟨5, [0], 0, [], 0, false, ⟨#[98]⟩, ⟨#[]⟩, ⟨#[]⟩, false, []⟩]
def exB : List OpV := [⟨1, [], 1, [], 0, false, ⟨#[]⟩, ⟨#[]⟩, ⟨#[]⟩, false, []⟩, ⟨5, [1], 0, [], 0, false, ⟨#[120]⟩, ⟨#[]⟩, ⟨#[]⟩, false, []⟩, ⟨4, [1], 0, [], 0, false, ⟨#[]⟩, ⟨#[107]⟩, ⟨#[49]⟩, false, []⟩, ⟨4, [1], 0, [], 0, false, ⟨#[]⟩, ⟨#[107]⟩, ⟨#[50]⟩, false, []⟩]
def exC : List OpV := [⟨3, [0], 1, [], 0, false, ⟨#[]⟩, ⟨#[]⟩, ⟨#[]⟩, false, []⟩]
def exD : List OpV := [⟨1, [], 0, [], 0, false, ⟨#[]⟩, ⟨#[]⟩, ⟨#[]⟩, false, []⟩, ⟨2, [0], 0, [], 0, false, ⟨#[]⟩, ⟨#[]⟩, ⟨#[]⟩, false, []⟩, ⟨2, [0], 0, [], 0, false, ⟨#[]⟩, ⟨#[]⟩, ⟨#[]⟩, false, []⟩]
def exE : OpV := ⟨6, [], 0, [], 0, false, ⟨#[]⟩, ⟨#[]⟩, ⟨#[]⟩, false, []⟩
def looks (l : List OpV) : List (Int × ByteArray × ByteArray) := l.map fun o => (o.kind, o.label, o.val)
theorem exA_is : looks (listV (pairV Cno) exA) = [(5, ⟨#[98]⟩, ⟨#[]⟩)] := by decide +kernel
theorem exB_is : looks (listV (pairV Cno) exB) = [(1, ⟨#[120]⟩, ⟨#[]⟩), (4, ⟨#[]⟩, ⟨#[50]⟩)] := by decide +kernel
theorem exC_is : looks (listV (pairV Cno) exC) = [] := by decide +kernel
theorem exD_is : looks (listV (pairV Cno) exD) = [(2, ⟨#[]⟩, ⟨#[]⟩)] := by decide +kernel
theorem exE_is : idleB exE = true := by decide +kernel
theorem looks_len {l : List OpV} {m : List (Int × ByteArray × ByteArray)} (h : looks l = m) : l.length = m.length := by rw [← h]; simp [looks]
theorem looks_at {l : List OpV} {m : List (Int × ByteArray × ByteArray)} (h : looks l = m) (k : Nat) (hk : k < l.length) (hm : k < m.length) : l[k].kind = m[k].1 ∧ l[k].label = m[k].2.1 ∧ l[k].val = m[k].2.2 := by
  subst h; simp [looks]

theorem RdOs.lit {w : World} (rs : List OpR) (h : ∀ r ∈ rs, Came w r.o r.p r.t r.q) (g : Nat) (hg : g = w.heap.size) (cs : Array Value) (hcs : cs.toList = OsCells rs) (n : Nat) (hn : n = rs.length) (hl : n ≤ 1000) (l : List OpV) (hm : l = rs.map fun r => r.o) :
    RdOs (w.alloc (.cells cs 26)) (.slice (some ⟨g, 0, none⟩) n n) l := by
  subst hg hn hm
  obtain ⟨cs⟩ := cs
  simp only at hcs
  subst hcs
  exact RdOs.new rs h hl
theorem Rd.one_at (w : World) (x : Int) (g : Nat) (hg : g = w.heap.size) : Rd (w.alloc (.cells #[.int .i64 x] 3)) (.slice (some ⟨g, 0, none⟩) 1 1) [x] := by subst hg; exact Rd.one w x
/-- What is told of a row of one's own. -/
theorem OwnOs.shown {B : Nat} {w : World} {v : Value} {l : List OpV} {m : List (Int × ByteArray × ByteArray)} (h : OwnOs B w v l) (hl : looks l = m) (hm : 0 < m.length) :
    ∃ g cap, v = .slice (some ⟨g, 0, none⟩) m.length cap ∧ m.length ≤ cap ∧ cap ≤ 9223372036854775807 ∧ ∀ k (hk : k < m.length), w.cell? ⟨g, k * 11, none⟩ = some (.int .u8 m[k].1) ∧ w.cell? ⟨g, k * 11 + 6, none⟩ = some (.string m[k].2.1) ∧ w.cell? ⟨g, k * 11 + 8, none⟩ = some (.string m[k].2.2) := by
  have hlen := looks_len hl
  obtain ⟨g, cap, rfl⟩ := h.ptr (by omega)
  obtain ⟨a', cap', e, h1, h2, h3, h4⟩ := h.rd.at_
  obtain ⟨rfl, -, rfl⟩ := Value.slice.inj e
  refine ⟨g, cap, by rw [hlen], by omega, h2, fun k hk => ?_⟩
  obtain ⟨b1, o1, pa, ta, qa, e1, c1, d0, d1, d2, d3, d4, d5, d6, d7, d8, -⟩ := h4 k (by omega)
  injection e1 with e1
  injection e1 with e1 e3
  subst e1 e3
  rw [Nat.zero_add] at d0 d6 d8
  obtain ⟨k1, k2, k3⟩ := looks_at hl k (by omega) hk
  rw [← k1, ← k2, ← k3]
  exact ⟨d0, d6, d8⟩
theorem exFits {k g : Int} {l e v : ByteArray} {p t : List Int} (hk : 0 ≤ k ∧ k ≤ 255) (hg : 0 ≤ g ∧ g ≤ 1000) (h1 : l.size ≤ 1000) (h2 : e.size ≤ 1000) (h3 : v.size ≤ 1000) {q : List Pc} {f x : Bool} {i : Int} : (OpV.mk k p g t i f l e v x q).Fits :=
  ⟨hk.1, hk.2, by dsimp only; omega, by dsimp only; omega, by dsimp only; omega, by dsimp only; omega, by dsimp only; omega⟩
theorem exLim (l : List OpV) (h : (l.all fun o => decide (o.path.length ≤ 2) && decide (o.to.length ≤ 2) && decide (o.pieces.length ≤ 2) && decide (o.kind ≠ 6)) = true) : ∀ o ∈ l, Lim o ∧ (o.kind = 6 → False) := by
  intro o ho
  have := List.all_eq_true.1 h o ho
  simp only [Bool.and_eq_true, decide_eq_true_eq] at this
  exact ⟨⟨by omega, by omega, by omega⟩, fun h6 => this.2 h6⟩

set_option maxHeartbeats 3200000 in
set_option maxRecDepth 100000 in
theorem works_any (w : World) : Calls Try.prog 11 #[] w fun e w' => e = .returned (.bool true) ∧ Below w.heap.size w w' := by
  go_enter Try.func11, Try.ntmps11
  go_wp2_with fail
  go_at_call 18
  refine (list_any Cno False (fun h => h.elim) _ exA _ (RdOs.lit [⟨_, .slice (some ⟨w.heap.size, 0, none⟩) 1 1, .slice none 0 0, .slice none 0 0⟩, ⟨_, .slice (some ⟨w.heap.size + 1, 0, none⟩) 1 1, .slice none 0 0, .slice none 0 0⟩] (fun r hr => by
    simp only [List.mem_cons, List.not_mem_nil, or_false] at hr
    rcases hr with rfl | rfl
    · exact Came.plain ((Rd.one_at w 0 _ rfl).alloc _) rfl rfl (exFits (by omega) (by omega) (by decide) (by decide) (by decide))
    · exact Came.plain (Rd.one_at _ 0 _ (by simp)) rfl rfl (exFits (by omega) (by omega) (by decide) (by decide) (by decide))) _ (by simp) _ rfl _ rfl (by simp) _ rfl) (exLim _ (by decide)) (by decide)).mono ?_
  rintro e w1 ⟨r1, rfl, ho1, hb1⟩
  obtain ⟨g1, c1, rfl, hc1, hd1, he1⟩ := ho1.shown exA_is (by decide)
  have hz1 : w.heap.size ≤ w1.heap.size := Nat.le_trans (by simp; omega) hb1.size
  have HB1 := Lib.hid (show Below w.heap.size w w1 from (bAl (bAl (bAl (Below.refl _ _) _) _) _).trans (hb1.mono (by simp; omega)))
  obtain ⟨-, x1, -⟩ := he1 0 (by decide)
  have hg1 := lt_of_cell x1
  clear he1 ho1 hb1
  simp only [List.length_cons, List.length_nil, Nat.zero_add, Nat.zero_mul, List.getElem_cons_zero] at x1 hc1 ⊢
  go_wp2_with fail
  go_at_call 18
  refine (list_any Cno False (fun h => h.elim) _ exB _ (RdOs.lit [⟨_, .slice none 0 0, .slice none 0 0, .slice none 0 0⟩, ⟨_, .slice (some ⟨w1.heap.size, 0, none⟩) 1 1, .slice none 0 0, .slice none 0 0⟩, ⟨_, .slice (some ⟨w1.heap.size + 1, 0, none⟩) 1 1, .slice none 0 0, .slice none 0 0⟩, ⟨_, .slice (some ⟨w1.heap.size + 1 + 1, 0, none⟩) 1 1, .slice none 0 0, .slice none 0 0⟩] (fun r hr => by
    simp only [List.mem_cons, List.not_mem_nil, or_false] at hr
    rcases hr with rfl | rfl | rfl | rfl
    · exact Came.plain (Rd.empty _) rfl rfl (exFits (by omega) (by omega) (by decide) (by decide) (by decide))
    · exact Came.plain (((Rd.one_at w1 1 _ rfl).alloc _).alloc _) rfl rfl (exFits (by omega) (by omega) (by decide) (by decide) (by decide))
    · exact Came.plain ((Rd.one_at _ 1 _ (by simp)).alloc _) rfl rfl (exFits (by omega) (by omega) (by decide) (by decide) (by decide))
    · exact Came.plain (Rd.one_at _ 1 _ (by simp)) rfl rfl (exFits (by omega) (by omega) (by decide) (by decide) (by decide))) _ (by simp) _ rfl _ rfl (by simp) _ rfl) (exLim _ (by decide)) (by decide)).mono ?_
  rintro e w2 ⟨r2, rfl, ho2, hb2⟩
  obtain ⟨g2, c2, rfl, hc2, hd2, he2⟩ := ho2.shown exB_is (by decide)
  have HB2 := Lib.hid (show Below w1.heap.size w1 w2 from (bAl (bAl (bAl (bAl (Below.refl _ _) _) _) _) _).trans (hb2.mono (by simp; omega)))
  obtain ⟨-, y1, -⟩ := he2 0 (by decide)
  obtain ⟨-, -, y2⟩ := he2 1 (by decide)
  have x2 := (HB2.out.cell (p := ⟨g1, _, none⟩) hg1).trans x1
  have hg2 := lt_of_cell y1
  have hg1' := lt_of_cell x2
  clear he2 ho2 hb2 x1 hg1
  simp only [List.length_cons, List.length_nil, Nat.zero_add, Nat.zero_mul, Nat.one_mul, List.getElem_cons_zero, List.getElem_cons_succ] at y1 y2 hc2 ⊢
  go_wp2_with fail
  go_at_call 18
  refine (list_any Cno False (fun h => h.elim) _ exC _ (RdOs.lit [⟨_, .slice (some ⟨w2.heap.size, 0, none⟩) 1 1, .slice none 0 0, .slice none 0 0⟩] (fun r hr => by
    simp only [List.mem_cons, List.not_mem_nil, or_false] at hr
    rcases hr with rfl
    · exact Came.plain (Rd.one_at w2 0 _ rfl) rfl rfl (exFits (by omega) (by omega) (by decide) (by decide) (by decide))) _ (by simp) _ rfl _ rfl (by simp) _ rfl) (exLim _ (by decide)) (by decide)).mono ?_
  rintro e w3 ⟨r3, rfl, ho3, hb3⟩
  obtain ⟨g3, c3, rfl⟩ := ho3.form
  rw [looks_len exC_is]
  have HB3 := Lib.hid (show Below w2.heap.size w2 w3 from (bAl (bAl (Below.refl _ _) _) _).trans (hb3.mono (by simp; omega)))
  have x3 := (HB3.out.cell (p := ⟨g1, _, none⟩) hg1').trans x2
  have y3 := (HB3.out.cell (p := ⟨g2, _, none⟩) hg2).trans y1
  have y4 := (HB3.out.cell (p := ⟨g2, _, none⟩) hg2).trans y2
  clear hb3 ho3 x2 y1 y2 hg1' hg2
  have hg1 := lt_of_cell x3
  have hg2 := lt_of_cell y3
  simp only [List.length_nil]
  go_wp2_with fail
  go_at_call 18
  refine (list_any Cno False (fun h => h.elim) _ exD _ (RdOs.lit [⟨_, .slice none 0 0, .slice none 0 0, .slice none 0 0⟩, ⟨_, .slice (some ⟨w3.heap.size, 0, none⟩) 1 1, .slice none 0 0, .slice none 0 0⟩, ⟨_, .slice (some ⟨w3.heap.size + 1, 0, none⟩) 1 1, .slice none 0 0, .slice none 0 0⟩] (fun r hr => by
    simp only [List.mem_cons, List.not_mem_nil, or_false] at hr
    rcases hr with rfl | rfl | rfl
    · exact Came.plain (Rd.empty _) rfl rfl (exFits (by omega) (by omega) (by decide) (by decide) (by decide))
    · exact Came.plain ((Rd.one_at w3 0 _ rfl).alloc _) rfl rfl (exFits (by omega) (by omega) (by decide) (by decide) (by decide))
    · exact Came.plain (Rd.one_at _ 0 _ (by simp)) rfl rfl (exFits (by omega) (by omega) (by decide) (by decide) (by decide))) _ (by simp) _ rfl _ rfl (by simp) _ rfl) (exLim _ (by decide)) (by decide)).mono ?_
  rintro e w4 ⟨r4, rfl, ho4, hb4⟩
  obtain ⟨g4, c4, rfl, hc4, hd4, he4⟩ := ho4.shown exD_is (by decide)
  have HB4 := Lib.hid (show Below w3.heap.size w3 w4 from (bAl (bAl (bAl (Below.refl _ _) _) _) _).trans (hb4.mono (by simp; omega)))
  obtain ⟨z1, -, -⟩ := he4 0 (by decide)
  have x4 := (HB4.out.cell (p := ⟨g1, _, none⟩) hg1).trans x3
  have y5 := (HB4.out.cell (p := ⟨g2, _, none⟩) hg2).trans y3
  have y6 := (HB4.out.cell (p := ⟨g2, _, none⟩) hg2).trans y4
  have HB5 := Lib.hid (bNext (bNext (bNext HB1.out HB2.out) HB3.out) HB4.out)
  clear he4 ho4 hb4 x3 y3 y4 hg1 hg2 hz1
  simp only [List.length_cons, List.length_nil, Nat.zero_add, Nat.zero_mul, Nat.one_mul, List.getElem_cons_zero, List.getElem_cons_succ] at z1 hc4 ⊢
  go_wp2_with (go_at_call 9; refine (idle_any _ exE _ ⟨.slice none 0 0, .slice none 0 0, .slice none 0 0, rfl, Rd.empty _, Rd.empty _, (Came.plain (o := exE) (p := .slice none 0 0) (Rd.empty _) rfl rfl (exFits (by omega) (by omega) (by decide) (by decide) (by decide))).pieces, exFits (by omega) (by omega) (by decide) (by decide) (by decide)⟩).mono ?_; rw [exE_is]; rintro e w5 ⟨rfl, hb5⟩)
  go_ret
  exact ⟨rfl, bNext HB5.out hb5⟩
end Go.Proofs.Ytciedipihfkbbaa
