/- An edit made normal: the document's walk. -/
import Derived.Test.YtciedipihfkbbaaEl
namespace Go.Proofs.Ytciedipihfkbbaa
open Go.RowKit

theorem app_none (x : ByteArray) : x ++ (⟨#[]⟩ : ByteArray) = x := ByteArray.append_empty
theorem none_app (x : ByteArray) : (⟨#[]⟩ : ByteArray) ++ x = x := ByteArray.empty_append
theorem piece_A {p : Pc} {l : List Pc} {k : Int} (h1 : p.put.size = 0) (h2 : p.drop = 0) : pieceS p (l, k) = (l, k + p.keep) := by
  unfold pieceS putS dropS; rw [if_pos h1, if_pos (by omega)]
theorem piece_B {p : Pc} {l : List Pc} {k : Int} (hd : 0 ≤ p.drop) (h1 : ¬ (p.put.size = 0 ∧ p.drop = 0)) (h2 : k + p.keep = 0) (h3 : 0 < l.length) :
    pieceS p (l, k) = (l.set (l.length - 1) ⟨(l[l.length - 1]'(by omega)).keep, (l[l.length - 1]'(by omega)).drop + p.drop, (l[l.length - 1]'(by omega)).put ++ p.put⟩, k + p.keep) := by
  have hl : ¬ (0 < k + p.keep ∨ l = []) := by
    rintro (h | h)
    · omega
    · rw [h] at h3; simp at h3
  have hL : lastS l (k + p.keep) = (l, k + p.keep) := if_neg hl
  unfold pieceS putS dropS
  simp only [hL]
  by_cases c1 : p.put.size = 0
  · have e1 : p.put = ⟨#[]⟩ := by rcases hp : p.put with ⟨d⟩; rw [hp] at c1; congr 1; exact Array.eq_empty_of_size_eq_zero c1
    have c2 : ¬ p.drop ≤ 0 := by omega
    rw [if_pos c1, if_neg c2]
    simp only [hL]
    rw [modify_last l h3, e1]
    simp only [app_none]
  · rw [if_neg c1]
    by_cases c2 : p.drop ≤ 0
    · rw [if_pos c2, modify_last l h3, show p.drop = 0 by omega, Int.add_zero]
    · rw [if_neg c2]
      have hl2 : ¬ (0 < k + p.keep ∨ l.modify (l.length - 1) (fun x => ⟨x.keep, x.drop, x.put ++ p.put⟩) = []) := by
        rintro (h | h)
        · omega
        · have := congrArg List.length h; rw [List.length_modify, List.length_nil] at this; omega
      have hL2 : lastS (l.modify (l.length - 1) (fun x => ⟨x.keep, x.drop, x.put ++ p.put⟩)) (k + p.keep) = (_, _) := if_neg hl2
      simp only [hL2]
      rw [modify_last _ (by simpa using h3)]
      simp only [modify_last l h3, List.length_set, List.set_set, List.getElem_set_self]
theorem piece_B' {p : Pc} {l : List Pc} {k : Int} (hd : 0 ≤ p.drop) (h1 : ¬ (p.put.size = 0 ∧ p.drop = 0)) (h2 : k + p.keep = 0) {n : Nat} (hn : n + 1 = l.length) (hnl : n < l.length) :
    pieceS p (l, k) = (l.set n ⟨l[n].keep, l[n].drop + p.drop, l[n].put ++ p.put⟩, k + p.keep) := by
  obtain rfl : n = l.length - 1 := by omega
  exact piece_B hd h1 h2 (by omega)
theorem piece_C {p : Pc} {l : List Pc} {k : Int} (hd : 0 ≤ p.drop) (h1 : ¬ (p.put.size = 0 ∧ p.drop = 0)) (hk : 0 ≤ k + p.keep) (h2 : ¬ (k + p.keep = 0 ∧ 0 < l.length)) :
    pieceS p (l, k) = (l ++ [⟨k + p.keep, p.drop, p.put⟩], 0) := by
  have hl : 0 < k + p.keep ∨ l = [] := by
    by_cases c : k + p.keep = 0
    · exact .inr (List.eq_nil_of_length_eq_zero (by omega))
    · exact .inl (by omega)
  have hL : lastS l (k + p.keep) = (l ++ [⟨k + p.keep, 0, ⟨#[]⟩⟩], 0) := if_pos hl
  have hM : ∀ (x : Pc) (f : Pc → Pc), (l ++ [x]).modify ((l ++ [x]).length - 1) f = l ++ [f x] := by
    intro x f
    rw [modify_last _ (by simp)]
    simp
  have hL0 : ∀ x : Pc, lastS (l ++ [x]) 0 = (l ++ [x], 0) := fun x => if_neg (by simp)
  unfold pieceS putS dropS
  simp only [hL]
  by_cases c1 : p.put.size = 0
  · have e1 : p.put = ⟨#[]⟩ := by rcases hp : p.put with ⟨d⟩; rw [hp] at c1; congr 1; exact Array.eq_empty_of_size_eq_zero c1
    have c2 : ¬ p.drop ≤ 0 := by omega
    rw [if_pos c1, if_neg c2]
    simp only [hL]
    rw [hM, e1]
    simp
  · rw [if_neg c1, hM]
    have e2 := none_app p.put
    by_cases c2 : p.drop ≤ 0
    · rw [if_pos c2, show p.drop = 0 by omega]; simp only [e2]
    · rw [if_neg c2]; simp only [hL0, hM, e2]; simp
end Go.Proofs.Ytciedipihfkbbaa
