/- What an edit is, made normal: bounds. -/
import Derived.Test.YtciedipihfkbbaaEj
namespace Go.Proofs.Ytciedipihfkbbaa
open Go.RowKit

def normFrom (m : List Pc × Int) (l : List Pc) : List Pc × Int := l.foldl (fun m p => pieceS p m) m
def normL (l : List Pc) : List Pc := (normFrom ([], 0) l).1
def sizes (l : List Pc) : Nat := (l.map fun p => p.put.size).sum

structure Inv (n : Nat) (K D : Int) (T : Nat) (m : List Pc × Int) : Prop where
  len : m.1.length ≤ n
  k0 : 0 ≤ m.2
  k1 : m.2 ≤ K
  all : ∀ x ∈ m.1, 0 ≤ x.keep ∧ x.keep ≤ K ∧ 0 ≤ x.drop ∧ x.drop ≤ D ∧ x.put.size ≤ T

theorem Inv.last {n : Nat} {K D : Int} {T : Nat} {m : List Pc × Int} (h : Inv n K D T m) (hD : 0 ≤ D) : Inv (n + 1) K D T (lastS m.1 m.2) := by
  unfold lastS
  split
  · refine ⟨by have := h.len; simp; omega, by simp, by simp; have := h.k0; have := h.k1; omega, fun x hx => ?_⟩
    simp only [List.mem_append, List.mem_singleton] at hx
    rcases hx with hx | rfl
    · exact h.all x hx
    · exact ⟨h.k0, h.k1, by simp, hD, by simp [ByteArray.size]⟩
  · exact ⟨Nat.le_succ_of_le h.len, h.k0, h.k1, h.all⟩
theorem mem_modify_last {l : List Pc} {f : Pc → Pc} {x : Pc} (hp : 0 < l.length) (h : x ∈ l.modify (l.length - 1) f) : x ∈ l ∨ ∃ y ∈ l, x = f y := by
  rw [modify_last l hp] at h
  rcases List.mem_or_eq_of_mem_set h with h | h
  · exact .inl h
  · exact .inr ⟨_, List.getElem_mem _, h⟩
theorem Inv.put {n : Nat} {K D : Int} {T : Nat} {m : List Pc × Int} (h : Inv n K D T m) (hD : 0 ≤ D) (s : ByteArray) : Inv (n + 1) K D (T + s.size) (putS s m) := by
  unfold putS
  split
  · exact ⟨by have := h.len; omega, h.k0, h.k1, fun x hx => by obtain ⟨a, b, c, d, e⟩ := h.all x hx; exact ⟨a, b, c, d, by omega⟩⟩
  · have hl := h.last hD
    refine ⟨by simpa using hl.len, hl.k0, hl.k1, fun x hx => ?_⟩
    rcases mem_modify_last (lastS_pos _ _) hx with hx | ⟨y, hy, rfl⟩
    · obtain ⟨a, b, c, d, e⟩ := hl.all x hx; exact ⟨a, b, c, d, by omega⟩
    · obtain ⟨a, b, c, d, e⟩ := hl.all y hy; exact ⟨a, b, c, d, by simp only [ByteArray.size_append]; omega⟩
theorem Inv.drop {n : Nat} {K D : Int} {T : Nat} {m : List Pc × Int} (h : Inv n K D T m) (hD : 0 ≤ D) (s M : Int) (h0 : 0 ≤ s) (h1 : s ≤ M) : Inv (n + 1) K (D + M) T (dropS s m) := by
  unfold dropS
  split
  · exact ⟨by have := h.len; omega, h.k0, h.k1, fun x hx => by obtain ⟨a, b, c, d, e⟩ := h.all x hx; exact ⟨a, b, c, by omega, e⟩⟩
  · have hl := h.last hD
    refine ⟨by simpa using hl.len, hl.k0, hl.k1, fun x hx => ?_⟩
    rcases mem_modify_last (lastS_pos _ _) hx with hx | ⟨y, hy, rfl⟩
    · obtain ⟨a, b, c, d, e⟩ := hl.all x hx; exact ⟨a, b, c, by omega, e⟩
    · obtain ⟨a, b, c, d, e⟩ := hl.all y hy; exact ⟨a, b, by simp only; omega, by simp only; omega, e⟩
theorem Inv.keep {n : Nat} {K D : Int} {T : Nat} {m : List Pc × Int} (h : Inv n K D T m) (s M : Int) (h0 : 0 ≤ s) (h1 : s ≤ M) : Inv n (K + M) D T (m.1, m.2 + s) :=
  ⟨h.len, by have := h.k0; simp only; omega, by have := h.k1; simp only; omega, fun x hx => by obtain ⟨a, b, c, d, e⟩ := h.all x hx; exact ⟨a, by omega, c, d, e⟩⟩
theorem Inv.piece {n : Nat} {K D : Int} {T : Nat} {m : List Pc × Int} (h : Inv n K D T m) (hD : 0 ≤ D) (p : Pc) (hp : okPc T p) :
    Inv (n + 2) (K + 1048576) (D + 1048576) (T + p.put.size) (pieceS p m) := by
  obtain ⟨a, b, c, d, e⟩ := hp
  exact ((h.keep p.keep 1048576 a b).put hD p.put).drop hD p.drop 1048576 c d
theorem Inv.able {n : Nat} {K D : Int} {T : Nat} {l : List Pc} {k : Int} (h : Inv n K D T (l, k)) (hD : 0 ≤ D) (p : Pc) (hp : okPc T p) (hn : n ≤ 90000) (hK : K ≤ 4503599627370496) (hDm : D ≤ 4503599627370496) (hT : T ≤ 1048576) : Able p l k := by
  obtain ⟨a, b, c, d, e⟩ := hp
  have h1 := h.keep p.keep 1048576 a b
  have h2 := h1.put hD p.put
  refine ⟨h.k0, a, by have := h.k1; simp only at this; omega, by have h3 : (putS p.put (l, k + p.keep)).1.length ≤ n + 1 := h2.len; omega, fun x hx => ?_, fun h0 x hx => ?_⟩
  · have := (h1.last hD).all x hx
    omega
  · have := (h2.last hD).all x hx
    omega

theorem rightGo_at {l : List Pc} {n : Nat} (h : rightGo n l = true) : ∀ k (hk : k < l.length), okPc ((n + sizes (l.take k) : Nat) : Int) l[k] := by
  induction l generalizing n with
  | nil => intro k hk; simp at hk
  | cons p t ih =>
    rw [rightGo, Bool.and_eq_true, decide_eq_true_eq] at h
    intro k hk
    cases k with
    | zero => simpa [sizes] using h.1
    | succ k =>
      have := ih (n := n + p.put.size) (by rw [Int.natCast_add]; exact h.2) k (by simpa using hk)
      simpa [sizes, Nat.add_assoc] using this
theorem sizes_take (l : List Pc) (k : Nat) (hk : k < l.length) : sizes (l.take (k + 1)) = sizes (l.take k) + l[k].put.size := by
  rw [List.take_succ_eq_append_getElem hk]; simp only [sizes, List.map_append, List.sum_append, List.map_cons, List.map_nil, List.sum_cons, List.sum_nil, Nat.add_zero]
theorem normFrom_take (m : List Pc × Int) (l : List Pc) (k : Nat) (hk : k < l.length) : normFrom m (l.take (k + 1)) = pieceS l[k] (normFrom m (l.take k)) := by
  rw [List.take_succ_eq_append_getElem hk]; simp only [normFrom, List.foldl_append, List.foldl_cons, List.foldl_nil]
/-- Behind k pieces of a right edit. -/
theorem norm_inv {l : List Pc} (h : rightB l = true) : ∀ k, k ≤ l.length → Inv (2 * k) (k * 1048576) (k * 1048576) (sizes (l.take k)) (normFrom ([], 0) (l.take k)) := by
  rw [rightB, Bool.and_eq_true, decide_eq_true_eq] at h
  intro k
  induction k with
  | zero => intro _; exact ⟨by simp [normFrom], by simp [normFrom], by simp [normFrom], by simp [normFrom]⟩
  | succ k ih =>
    intro hk
    have h1 := ih (by omega)
    have h2 := rightGo_at (n := 0) (by simpa using h.2) k (by omega)
    rw [Nat.zero_add] at h2
    rw [normFrom_take _ _ _ (by omega), sizes_take _ _ (by omega)]
    have h3 := h1.piece (by omega) _ h2
    have e : ((k + 1 : Nat) : Int) * 1048576 = (k : Int) * 1048576 + 1048576 := by omega
    rw [e, show 2 * (k + 1) = 2 * k + 2 by omega]
    exact h3
theorem norm_able {l : List Pc} (h : rightB l = true) (k : Nat) (hk : k < l.length) : Able l[k] (normFrom ([], 0) (l.take k)).1 (normFrom ([], 0) (l.take k)).2 := by
  have h1 := norm_inv h k (by omega)
  rw [rightB, Bool.and_eq_true, decide_eq_true_eq] at h
  have h2 := rightGo_at (n := 0) (by simpa using h.2) k hk
  rw [Nat.zero_add] at h2
  have h3 := h2.2.2.2.2
  exact h1.able (by omega) _ h2 (by omega) (by omega) (by omega) (by omega)
theorem norm_fit {l : List Pc} (h : rightB l = true) : Fit (normL l) ∧ (normL l).length ≤ 8192 := by
  have h1 := norm_inv h l.length (Nat.le_refl _)
  rw [List.take_length] at h1
  rw [rightB, Bool.and_eq_true, decide_eq_true_eq] at h
  refine ⟨fun x hx => ?_, by have := h1.len; unfold normL; omega⟩
  obtain ⟨a, b, c, d, e⟩ := h1.all x hx
  have hs : sizes l ≤ 1048576 := by
    have := h.2
    clear h1 hx e h
    rcases Nat.eq_zero_or_pos l.length with h0 | h0
    · have : l = [] := List.eq_nil_of_length_eq_zero h0
      subst this; simp [sizes]
    · have h2 := rightGo_at (n := 0) (by simpa using this) (l.length - 1) (by omega)
      have h3 := sizes_take l (l.length - 1) (by omega)
      rw [show l.length - 1 + 1 = l.length by omega, List.take_length] at h3
      have := h2.2.2.2.2
      omega
  omega
end Go.Proofs.Ytciedipihfkbbaa
