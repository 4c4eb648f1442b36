/- What an argument reads as: rows of numbers, pieces, operations. -/
import Derived.Test.YtciedipihfkbbaaEs
import Derived.Deep.Slices
import Derived.Deep.Fields
import Derived.ChangeSame
namespace Go.Proofs.Ytciedipihfkbbaa
open Go.RowKit Go.ChangeShapes Go.WideShapes Go.Deep

theorem chunks {R : Type} (f : R → List Value) (size : Nat) (hf : ∀ r, (f r).length = size) (Q : R → Prop) (n : Nat) : ∀ xs : List Value, xs.length = n * size → (∀ i, i < n → ∃ r, (xs.drop (i * size)).take size = f r ∧ Q r) →
    ∃ rs : List R, rs.length = n ∧ rs.flatMap f = xs ∧ ∀ r ∈ rs, Q r := by
  induction n with
  | zero => intro xs h _; exact ⟨[], rfl, by have : xs = [] := List.eq_nil_of_length_eq_zero (by simpa using h); rw [this]; rfl, by simp⟩
  | succ n ih =>
    intro xs h hc
    obtain ⟨r, h1, h2⟩ := hc 0 (by omega)
    obtain ⟨rs, k1, k2, k3⟩ := ih (xs.drop size) (by rw [List.length_drop, h, Nat.succ_mul]; omega) fun i hi => by
      obtain ⟨r, h1, h2⟩ := hc (i + 1) (by omega)
      refine ⟨r, ?_, h2⟩
      rw [List.drop_drop, ← h1, Nat.add_mul, Nat.one_mul, Nat.add_comm size]
    rw [Nat.zero_mul, List.drop_zero] at h1
    refine ⟨r :: rs, by rw [List.length_cons, k1], ?_, fun x hx => ?_⟩
    · rw [List.flatMap_cons, k2, ← h1, List.take_append_drop]
    · rcases List.mem_cons.1 hx with rfl | hx
      · exact h2
      · exact k3 x hx

section
variable {H : Type} {enc : TypeId × Value → H} {P : Program} {w : World} {sp : Nat → Bool} {held : Bool}

theorem Rdc.of_trod {t e : TypeId} {size fuel : Nat} {cs : List Value} {x : DataW H × List MemPlace} (ht : P.underlying t = some (.slice e)) (hC : P.cellsOf e = size)
    (h : DataW.trod enc P w 0 sp held fuel t cs = some x) : ∃ v n xs, cs = [v] ∧ Rdc w size v n xs ∧ n ≤ maxLen ∧ ∀ i, i < n → ∃ m y, DataW.trod enc P w 0 sp held m e ((xs.drop (i * size)).take size) = some y := by
  rcases open_slice ht h with ⟨rfl, -⟩ | ⟨a, len, cap, m, k, D, Pl, rfl, hb, hl, hm, hmm, -, hi⟩
  · exact ⟨.slice none 0 0, 0, [], rfl, ⟨by simp, none, 0, rfl, Nat.le_refl _, by omega, fun _ => rfl, fun j u hu => by simp at hu⟩, by simp, fun i hi => by omega⟩
  · have hml : len ≤ m := by rw [hmm]; split <;> omega
    have hz : ∀ i, i < len → ∃ cs', cs'.length = size ∧ (∀ j u, cs'[j]? = some u → w.cell? (a.add (i * size + j)) = some u) ∧ ∃ m y, DataW.trod enc P w 0 sp held m e cs' = some y := fun i hi' => by
      obtain ⟨cs', hc, htr⟩ := hi i (by omega)
      rw [hC] at hc
      obtain ⟨-, hcl, hat⟩ := World.cells?_some hc
      exact ⟨cs', hcl, fun j u hu => by rw [← Go.Deep.add_add, hat j (by rw [← hcl]; exact (List.getElem?_eq_some_iff.1 hu).1)]; exact hu, _, _, htr⟩
    obtain ⟨xs, hxs, hx⟩ : ∃ xs : List Value, xs.length = len * size ∧ ∀ i, i < len → ∃ cs', (xs.drop (i * size)).take size = cs' ∧ cs'.length = size ∧ (∀ j u, cs'[j]? = some u → w.cell? (a.add (i * size + j)) = some u) ∧ ∃ m y, DataW.trod enc P w 0 sp held m e cs' = some y := by
      clear hi hm hl hml hmm h
      induction len with
      | zero => exact ⟨[], by simp, fun i hi => by omega⟩
      | succ n ih =>
        obtain ⟨xs, h1, h2⟩ := ih (fun i hi => hz i (by omega))
        obtain ⟨cs', h3, h4, h5⟩ := hz n (by omega)
        refine ⟨xs ++ cs', by rw [List.length_append, h1, h3, Nat.succ_mul], fun i hi => ?_⟩
        by_cases hin : i < n
        · obtain ⟨cs'', k1, k2⟩ := h2 i hin
          refine ⟨cs'', ?_, k2⟩
          have hle : i * size + size ≤ n * size := by rw [← Nat.succ_mul]; exact Nat.mul_le_mul_right _ hin
          rw [List.drop_append_of_le_length (by rw [h1]; omega), List.take_append_of_le_length (by rw [List.length_drop, h1]; omega)]
          exact k1
        · obtain rfl : i = n := by omega
          refine ⟨cs', ?_, h3, h4, h5⟩
          rw [List.drop_append, List.drop_of_length_le (by rw [h1]; exact Nat.le_refl _), h1, Nat.sub_self, List.drop_zero, List.nil_append, List.take_of_length_le (by rw [h3]; exact Nat.le_refl _)]
    refine ⟨_, len, xs, rfl, ⟨hxs, some a, cap, rfl, hl, by unfold maxLen at hm; omega, fun h => by simp at h, fun j u hu => ?_⟩, by omega, fun i hi => ?_⟩
    · have hj := (List.getElem?_eq_some_iff.1 hu).1
      rw [hxs] at hj
      have hs0 : 0 < size := by rcases Nat.eq_zero_or_pos size with h0 | h0; · rw [h0] at hj; omega
                                · exact h0
      obtain ⟨cs', k1, k2, k3, -⟩ := hx (j / size) (Nat.div_lt_of_lt_mul (by rw [Nat.mul_comm]; exact hj))
      have hjm : j / size * size + j % size = j := Nat.div_add_mod' j size
      have hu' : cs'[j % size]? = some u := by
        rw [← k1, List.getElem?_take, if_pos (Nat.mod_lt _ hs0), List.getElem?_drop, hjm]; exact hu
      have := k3 _ _ hu'
      rw [hjm] at this
      obtain ⟨b, o, s⟩ := a
      have hspot := World.cell?_spot this
      refine ⟨b, o, ?_, ?_⟩
      · -- the head's own spot
        obtain ⟨cs0, q1, q2, q3, -⟩ := hx 0 (by rcases Nat.eq_zero_or_pos len with h0 | h0; · rw [h0] at hj; omega
                                                · exact h0)
        have h0 : cs0[0]? = some (cs0[0]'(by omega)) := List.getElem?_eq_getElem _
        have := World.cell?_spot (q3 0 _ h0)
        rw [Nat.zero_mul, Nat.zero_add] at this
        unfold Addr.add at this
        simp at this
        rw [this]
      · have e : ((⟨b, o, s⟩ : Addr).add j) = ⟨b, o + j, none⟩ := by
          unfold Addr.add at hspot ⊢
          split
          · rename_i h0; subst h0; rw [if_pos rfl] at hspot; simp at hspot; rw [hspot]; rfl
          · rfl
        rw [← e]; exact this
    · obtain ⟨cs', k1, -, -, m', y, k4⟩ := hx i hi
      exact ⟨m', y, by rw [k1]; exact k4⟩

/-- The fields of a struct whose fields are cells. -/
theorem fields_of_trod {t : TypeId} {fs : Array Field} {fuel : Nat} {cs : List Value} {x : DataW H × List MemPlace} (ht : P.underlying t = some (.struct fs)) (hone : oneCellFields P fs = true) (hC : P.cellsOf t = fs.size)
    (h : DataW.trod enc P w 0 sp held fuel t cs = some x) : cs.length = fs.size ∧ ∀ (j : Nat) (f : Field), fs[j]? = some f → ∃ u n y, cs[j]? = some u ∧ DataW.trod enc P w 0 sp held n f.type [u] = some y := by
  obtain ⟨xs, n, _, hx, hl, hlen, hg⟩ := DataW.trod_struct ht h
  rw [hC] at hl
  refine ⟨hl, fun j f hj => ?_⟩
  have hjl : j < fs.size := (Array.getElem?_eq_some_iff.1 hj).1
  obtain ⟨o0, k0⟩ := hone_of hone j f hj
  have := hg j f hj
  rw [o0, k0] at this
  have hone' : (cs.drop j).take 1 = [cs[j]'(by omega)] := by rw [List.drop_eq_getElem_cons (by omega)]; rfl
  rw [hone', List.getElem?_eq_getElem (by omega)] at this
  exact ⟨_, n, _, List.getElem?_eq_getElem (by omega), this⟩
end

section
variable {H : Type} {enc : TypeId × Value → H} {w : World} {sp : Nat → Bool} {held : Bool} {fuel : Nat} {cs : List Value} {x : DataW H × List MemPlace}

theorem int_of {u : Value} (h : DataW.trod enc Try.prog w 0 sp held fuel 3 [u] = some x) : ∃ n : Int, u = .int .i64 n ∧ -9223372036854775808 ≤ n ∧ n ≤ 9223372036854775807 := by
  obtain ⟨n, h1, -, h2⟩ := DataW.trod_int Try.underlying3 h
  have := Joins.in64_of_wf h2
  unfold Joins.In64 at this
  exact ⟨n, by simpa using h1, by omega, by omega⟩
theorem str_of {u : Value} (h : DataW.trod enc Try.prog w 0 sp held fuel 9 [u] = some x) : ∃ s : ByteArray, u = .string s ∧ s.size ≤ 9223372036854775807 := by
  obtain ⟨n, h1, -, h2⟩ := DataW.trod_string Try.underlying9 h
  exact ⟨n, by simpa using h1, by unfold maxLen at h2; omega⟩
theorem bool_of {u : Value} (h : DataW.trod enc Try.prog w 0 sp held fuel 4 [u] = some x) : ∃ s : Bool, u = .bool s := by
  obtain ⟨n, h1, -⟩ := DataW.trod_bool Try.underlying4 h
  exact ⟨n, by simpa using h1⟩

theorem ints_flat (l : List Int) : l.flatMap (fun n : Int => [Value.int .i64 n]) = l.map (Value.int .i64) := by
  induction l with
  | nil => rfl
  | cons n l ih => rw [List.flatMap_cons, ih]; rfl
theorem Rd.of_trod {u : Value} (h : DataW.trod enc Try.prog w 0 sp held fuel 22 [u] = some x) : ∃ l, Rd w u l := by
  obtain ⟨v, n, xs, e, hr, hn, hi⟩ := Rdc.of_trod Try.underlying22 (size := 1) (by kernel_rfl) h
  obtain rfl : u = v := by simpa using e
  obtain ⟨l, h1, h2, -⟩ := chunks (fun n : Int => [Value.int .i64 n]) 1 (fun _ => rfl) (fun _ => True) n xs hr.1 fun i hin => by
    obtain ⟨m, y, hy⟩ := hi i hin
    have hl : i < xs.length := by rw [hr.1]; omega
    have : (xs.drop (i * 1)).take 1 = [xs[i]] := by rw [Nat.mul_one, List.drop_eq_getElem_cons hl]; rfl
    rw [this] at hy ⊢
    obtain ⟨n, e, -⟩ := int_of hy
    exact ⟨n, by rw [e], trivial⟩
  subst h1
  have e2 : xs = l.map (Value.int .i64) := by rw [← h2, ints_flat]
  rw [e2] at hr
  exact ⟨l, hr.rd⟩

theorem PcCells_flat (l : List Pc) : l.flatMap Pc.cells = PcCells l := by
  induction l with
  | nil => rfl
  | cons p l ih => rw [List.flatMap_cons, ih]; rfl
theorem OsCells_flat (l : List OpR) : l.flatMap OpR.cells = OsCells l := by
  induction l with
  | nil => rfl
  | cons p l ih => rw [List.flatMap_cons, ih]; rfl

theorem pc_of (h : DataW.trod enc Try.prog w 0 sp held fuel 35 cs = some x) : ∃ p : Pc, cs = p.cells ∧ -9223372036854775808 ≤ p.keep ∧ p.keep ≤ 9223372036854775807 ∧ -9223372036854775808 ≤ p.drop ∧ p.drop ≤ 9223372036854775807 ∧ p.put.size ≤ 9223372036854775807 := by
  obtain ⟨hl, hf⟩ := fields_of_trod Try.underlying35 (by kernel_rfl) (by kernel_rfl) h
  obtain ⟨u0, n0, y0, c0, t0⟩ := hf 0 _ rfl
  obtain ⟨u1, n1, y1, c1, t1⟩ := hf 1 _ rfl
  obtain ⟨u2, n2, y2, c2, t2⟩ := hf 2 _ rfl
  obtain ⟨k, rfl, a1, a2⟩ := int_of t0
  obtain ⟨d, rfl, b1, b2⟩ := int_of t1
  obtain ⟨s, rfl, s1⟩ := str_of t2
  match cs, hl, c0, c1, c2 with
  | [v0, v1, v2], _, c0, c1, c2 =>
    simp at c0 c1 c2
    subst c0 c1 c2
    exact ⟨⟨k, d, s⟩, rfl, a1, a2, b1, b2, s1⟩

theorem Rdc.rdp {v : Value} {l : List Pc} (h : Rdc w 3 v l.length (PcCells l)) (hf : Fit l) : RdP w v l := by
  obtain ⟨-, a, cap, rfl, h2, h3, h4, h5⟩ := h
  refine ⟨a, cap, rfl, h2, h3, h4, fun j hj => ?_⟩
  obtain ⟨c1, c2, c3⟩ := PcCells_at l j hj
  obtain ⟨b, o, rfl, e1⟩ := h5 _ _ c1
  obtain ⟨b2, o2, e, e2⟩ := h5 _ _ c2
  cases e
  obtain ⟨b3, o3, e, e3⟩ := h5 _ _ c3
  cases e
  exact ⟨b, o, rfl, e1, e2, e3, hf _ (List.getElem_mem hj)⟩

theorem RdP.of_trod {u : Value} (h : DataW.trod enc Try.prog w 0 sp held fuel 24 [u] = some x) : ∃ l, RdP w u l := by
  obtain ⟨v, n, xs, e, hr, hn, hi⟩ := Rdc.of_trod Try.underlying24 (size := 3) (by kernel_rfl) h
  obtain rfl : u = v := by simpa using e
  obtain ⟨l, h1, h2, h3⟩ := chunks Pc.cells 3 (fun _ => rfl) (fun p => -9223372036854775808 ≤ p.keep ∧ p.keep ≤ 9223372036854775807 ∧ -9223372036854775808 ≤ p.drop ∧ p.drop ≤ 9223372036854775807 ∧ p.put.size ≤ 9223372036854775807) n xs hr.1 fun i hin => by
    obtain ⟨m, y, hy⟩ := hi i hin
    exact pc_of hy
  subst h1
  rw [PcCells_flat] at h2
  rw [← h2] at hr
  exact ⟨l, hr.rdp h3⟩

theorem u8_of {u : Value} (h : DataW.trod enc Try.prog w 0 sp held fuel 5 [u] = some x) : ∃ n : Int, u = .int .u8 n ∧ 0 ≤ n ∧ n ≤ 255 := by
  obtain ⟨n, h1, -, h2⟩ := DataW.trod_int Try.underlying5 h
  have : 0 ≤ n ∧ n ≤ 255 := by
    have e1 : IntKind.u8.min = 0 := rfl
    have e2 : IntKind.u8.max = 255 := rfl
    simp [Lit.wf] at h2; omega
  exact ⟨n, by simpa using h1, this⟩
theorem u64_of {u : Value} (h : DataW.trod enc Try.prog w 0 sp held fuel 23 [u] = some x) : ∃ n : Int, u = .int .u64 n := by
  obtain ⟨n, h1, -⟩ := DataW.trod_int Try.underlying23 h
  exact ⟨n, by simpa using h1⟩

theorem op_of (h : DataW.trod enc Try.prog w 0 sp held fuel 26 cs = some x) : ∃ r : OpR, cs = r.cells ∧ Came w r.o r.p r.t r.q := by
  obtain ⟨hl, hf⟩ := fields_of_trod Try.underlying26 (by kernel_rfl) (by kernel_rfl) h
  obtain ⟨u0, n0, y0, c0, t0⟩ := hf 0 _ rfl
  obtain ⟨u1, n1, y1, c1, t1⟩ := hf 1 _ rfl
  obtain ⟨u2, n2, y2, c2, t2⟩ := hf 2 _ rfl
  obtain ⟨u3, n3, y3, c3, t3⟩ := hf 3 _ rfl
  obtain ⟨u4, n4, y4, c4, t4⟩ := hf 4 _ rfl
  obtain ⟨u5, n5, y5, c5, t5⟩ := hf 5 _ rfl
  obtain ⟨u6, n6, y6, c6, t6⟩ := hf 6 _ rfl
  obtain ⟨u7, n7, y7, c7, t7⟩ := hf 7 _ rfl
  obtain ⟨u8, n8, y8, c8, t8⟩ := hf 8 _ rfl
  obtain ⟨u9, n9, y9, c9, t9⟩ := hf 9 _ rfl
  obtain ⟨u10, n10, y10, c10, t10⟩ := hf 10 _ rfl
  obtain ⟨k, rfl, a1, a2⟩ := u8_of t0
  obtain ⟨path, hp⟩ := Rd.of_trod t1
  obtain ⟨g, rfl, g1, g2⟩ := int_of t2
  obtain ⟨to, ht⟩ := Rd.of_trod t3
  obtain ⟨i, rfl⟩ := u64_of t4
  obtain ⟨lf, rfl⟩ := bool_of t5
  obtain ⟨lb, rfl, b1⟩ := str_of t6
  obtain ⟨ky, rfl, b2⟩ := str_of t7
  obtain ⟨vl, rfl, b3⟩ := str_of t8
  obtain ⟨gn, rfl⟩ := bool_of t9
  obtain ⟨pcs, hq⟩ := RdP.of_trod t10
  match cs, hl, c0, c1, c2, c3, c4, c5, c6, c7, c8, c9, c10 with
  | [v0, v1, v2, v3, v4, v5, v6, v7, v8, v9, v10], _, c0, c1, c2, c3, c4, c5, c6, c7, c8, c9, c10 =>
    simp at c0 c1 c2 c3 c4 c5 c6 c7 c8 c9 c10
    subst c0 c1 c2 c3 c4 c5 c6 c7 c8 c9 c10
    exact ⟨⟨⟨k, path, g, to, i, lf, lb, ky, vl, gn, pcs⟩, v1, v3, v10⟩, rfl, hp, ht, hq, a1, a2, g1, g2, b1, b2, b3⟩

theorem RdOs.of_trod {u : Value} (h : DataW.trod enc Try.prog w 0 sp held fuel 30 [u] = some x) : ∃ l, RdOs w u l := by
  obtain ⟨v, n, xs, e, hr, hn, hi⟩ := Rdc.of_trod Try.underlying30 (size := 11) (by kernel_rfl) h
  obtain rfl : u = v := by simpa using e
  obtain ⟨l, h1, h2, h3⟩ := chunks OpR.cells 11 OpR.cells_len (fun r => Came w r.o r.p r.t r.q) n xs hr.1 fun i hin => by
    obtain ⟨m, y, hy⟩ := hi i hin
    exact op_of hy
  subst h1
  rw [OsCells_flat] at h2
  rw [← h2] at hr
  exact ⟨_, l, rfl, hr, h3⟩
set_option maxRecDepth 100000 in
theorem RdO.of_trod {v : Value} {d : DataW H} {ps : List MemPlace} {r : Reach} {b0 : Nat} (hv : Value.okWide Try.prog w r b0 26 v) (h : DataW.Trod enc Try.prog w 0 sp held 26 v d ps) : ∃ o, RdO w v o := by
  obtain ⟨cs, rfl, hsz⟩ := okWide_struct Try.underlying26 hv
  obtain ⟨fuel, hf⟩ := h
  obtain ⟨r, e, hc⟩ := op_of hf
  obtain ⟨cs⟩ := cs
  refine ⟨r.o, r.p, r.t, r.q, ?_, hc.path, hc.to, hc.pieces, hc.fits⟩
  have : cs = r.cells := by simpa [Value.cells] using e
  subst this
  rfl
end
end Go.Proofs.Ytciedipihfkbbaa
