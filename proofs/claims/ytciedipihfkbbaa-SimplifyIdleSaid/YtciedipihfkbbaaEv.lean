/- Lists simplified: the program's walk. -/
import Derived.Test.YtciedipihfkbbaaEu
namespace Go.Proofs.Ytciedipihfkbbaa
open Go.RowKit

/-- A row, its last operation first, made fewer at its end. -/
def redS (P : OpV → OpV → Option (List OpV)) : Nat → List OpV → List OpV
  | n + 1, b :: a :: s => match P a b with
    | none => b :: a :: s
    | some x => redS P n (x.reverse ++ s)
  | _, s => s
def pushS (P : OpV → OpV → Option (List OpV)) (s : List OpV) (o : OpV) : List OpV := if idleB o then s else redS P (s.length + 1) (bareV o :: s)
def listS (P : OpV → OpV → Option (List OpV)) (l : List OpV) : List OpV := l.foldl (pushS P) []
def listV (P : OpV → OpV → Option (List OpV)) (l : List OpV) : List OpV := (listS P l).reverse

def Few (P : OpV → OpV → Option (List OpV)) : Prop := ∀ a b x, P a b = some x → x.length ≤ 1
theorem redS_two_none {P : OpV → OpV → Option (List OpV)} {a b : OpV} {s : List OpV} (h : P a b = none) (n : Nat) : redS P n (b :: a :: s) = b :: a :: s := by
  cases n with
  | zero => rfl
  | succ n => simp [redS, h]
theorem redS_two_some {P : OpV → OpV → Option (List OpV)} {a b : OpV} {s x : List OpV} (h : P a b = some x) (n : Nat) : redS P (n + 1) (b :: a :: s) = redS P n (x.reverse ++ s) := by
  simp [redS, h]
theorem redS_short {P : OpV → OpV → Option (List OpV)} {s : List OpV} (h : s.length ≤ 1) (n : Nat) : redS P n s = s := by
  match n, s, h with
  | 0, _, _ => rfl
  | n + 1, [], _ => rfl
  | n + 1, [a], _ => rfl
theorem redS_fuel {P : OpV → OpV → Option (List OpV)} (hP : Few P) (m : Nat) : ∀ (n : Nat) (s : List OpV), s.length ≤ m → s.length ≤ n → redS P n s = redS P s.length s := by
  induction m with
  | zero => intro n s h _; rw [redS_short (by omega), redS_short (by omega)]
  | succ m ih =>
    intro n s h h'
    match s with
    | [] => rw [redS_short (by simp), redS_short (by simp)]
    | [a] => rw [redS_short (by simp), redS_short (by simp)]
    | b :: a :: s =>
      cases hp : P a b with
      | none => rw [redS_two_none hp, redS_two_none hp]
      | some x =>
        have hx := hP _ _ _ hp
        simp only [List.length_cons] at h h' ⊢
        obtain ⟨n, rfl⟩ : ∃ k, n = k + 1 := ⟨n - 1, by omega⟩
        rw [redS_two_some hp, redS_two_some hp, ih n _ (by simp; omega) (by simp; omega), ih (s.length + 1) _ (by simp; omega) (by simp; omega)]
theorem redS_step {P : OpV → OpV → Option (List OpV)} (hP : Few P) {a b : OpV} {s x : List OpV} (h : P a b = some x) : redS P (b :: a :: s).length (b :: a :: s) = redS P (x.reverse ++ s).length (x.reverse ++ s) := by
  have hx := hP _ _ _ h
  rw [List.length_cons, redS_two_some h]
  exact redS_fuel hP (s.length + 2) _ _ (by simp; omega) (by simp; omega)
theorem pair_few (C : List Pc → List Pc → Option (List Pc)) : Few (pairV C) := by
  intro a b x h
  unfold pairV at h
  split at h
  · cases h
  split at h
  · cases h; simp
  split at h
  · cases h; simp
  split at h
  · cases h
  split at h
  · cases h; simp
  split at h
  · split at h <;> cases h; simp
  split at h
  · split at h
    · cases h
    · split at h <;> cases h <;> simp
  · cases h

theorem bare_kind (o : OpV) : (bareV o).kind = o.kind := by
  rcases kinds o with h | h | h | h | h | h | h
  · rw [bare1 h, h]
  · rw [bare2 h, h]
  · rw [bare3 h, h]
  · rw [bare4 h, h]
  · rw [bare5 h, h]
  · rw [bare6 h, h]
  · rw [bare0 h]
/-- Of the operations that stand instead of two something is known that is known of the two. -/
theorem pair_keeps {C : List Pc → List Pc → Option (List Pc)} {K : Prop} (hC : K → ∀ l m x, C l m = some x → x.length ≤ 100000) {a b : OpV} {x : List OpV} (h : pairV C a b = some x) (ha : Lim a ∧ (a.kind = 6 → K)) (hb : Lim b ∧ (b.kind = 6 → K)) :
    ∀ o ∈ x, Lim o ∧ (o.kind = 6 → K) := by
  have hk := bare_kind
  unfold pairV at h
  split at h
  · cases h
  split at h
  · cases h; simp
  split at h
  · cases h
    intro o ho
    rw [List.mem_singleton] at ho
    subst ho
    exact ⟨lim_bare ha.1, by rw [hk]; exact ha.2⟩
  split at h
  · cases h
  split at h
  · cases h
    intro o ho
    rw [List.mem_singleton] at ho
    subst ho
    exact ⟨lim_bare hb.1, by rw [hk]; exact hb.2⟩
  split at h
  · split at h <;> cases h
    intro o ho
    rw [List.mem_singleton] at ho
    subst ho
    exact ⟨lim_bare hb.1, by rw [hk]; exact hb.2⟩
  split at h
  · rename_i hk6
    split at h
    · cases h
    · rename_i l hl
      split at h <;> cases h
      · simp
      · intro o ho
        rw [List.mem_singleton] at ho
        subst ho
        exact ⟨lim_bare ⟨hb.1.1, hb.1.2.1, hC (ha.2 hk6) _ _ _ hl⟩, by rw [hk]; exact hb.2⟩
  · cases h
end Go.Proofs.Ytciedipihfkbbaa
