/- Arguments: a slice of deeds, and a packet by value, as they came in. -/
import Derived.Test.YtnccgbcmencncaaA
namespace Go.Proofs.Ytnccgbcmencncaa
open Go.RowKit Go.ChangeShapes Go.WideShapes Go.Deep

/-- Something that is asked of a net. -/
structure Dd where
  kind : Int
  k : Int
  p : Pk
instance : Inhabited Dd := ⟨⟨0, 0, default⟩⟩
def Dd.agg (d : Dd) : Value := .agg #[.int .i64 d.kind, .int .i64 d.k, .int .i64 d.p.src, .int .i64 d.p.dst, .string d.p.data]

/-- A slice of deeds that came in. -/
def ArgDds (w : World) (A : Option Addr) (n : Nat) (l : List Dd) : Prop :=
  l.length = n ∧ n ≤ maxLen ∧ (∀ d ∈ l, I64 d.kind ∧ I64 d.k) ∧ (0 < n → ∃ b o, A = some ⟨b, o, none⟩ ∧ b < w.heap.size ∧ ∀ i d, l[i]? = some d → w.cell? ⟨b, o + i * 5, none⟩ = some (.int .i64 d.kind) ∧ w.cell? ⟨b, o + i * 5 + 1, none⟩ = some (.int .i64 d.k) ∧
    w.cell? ⟨b, o + i * 5 + 2, none⟩ = some (.int .i64 d.p.src) ∧ w.cell? ⟨b, o + i * 5 + 3, none⟩ = some (.int .i64 d.p.dst) ∧ w.cell? ⟨b, o + i * 5 + 4, none⟩ = some (.string d.p.data))

section
variable {H : Type} {enc : TypeId × Value → H} {W : World} {base : Nat} {sp : Nat → Bool} {held : Bool}

theorem cells5 : Try.prog.cellsOf 38 = 5 := by kernel_rfl

theorem trod_dd {n : Nat} {cs : List Value} {x : DataW H × List MemPlace} (h : DataW.trod enc Try.prog W base sp held n 38 cs = some x) :
    ∃ d : Dd, cs = [.int .i64 d.kind, .int .i64 d.k, .int .i64 d.p.src, .int .i64 d.p.dst, .string d.p.data] ∧ I64 d.kind ∧ I64 d.k := by
  obtain ⟨xs, m, _, hx, hlen, hxl, hf⟩ := DataW.trod_struct Try.underlying38 h
  have e0 := hf 0 _ rfl
  have e1 := hf 1 _ rfl
  have e2 := hf 2 _ rfl
  rw [cells5] at hlen
  match cs, hlen with
  | [c0, c1, c2, c3, c4], _ =>
    match xs, hxl with
    | [y0, y1, y2], _ =>
      have k3 : Try.prog.cellsOf 3 = 1 := by kernel_rfl
      simp only [List.getElem_toArray, List.getElem_cons_zero, List.getElem_cons_succ, k3, cells3, List.drop_zero, List.drop_succ_cons, List.take_succ_cons, List.take_zero, List.getElem?_cons_zero, List.getElem?_cons_succ] at e0 e1 e2
      obtain ⟨a, h0, g0, w0⟩ := DataW.trod_int Try.underlying3 e0
      obtain ⟨b, h1, g1, w1⟩ := DataW.trod_int Try.underlying3 e1
      obtain ⟨q, h2, _⟩ := trod_pk e2
      simp only [List.cons.injEq, and_true, Pk.cells] at h0 h1 h2
      obtain ⟨rfl, rfl, rfl⟩ := h2
      subst h0; subst h1
      exact ⟨⟨a, b, q⟩, rfl, bounds_i64 w0, bounds_i64 w1⟩

theorem open_dds {v : Value} {d : DataW H} {p : List MemPlace} (hv : Value.okWide Try.prog W .any base 32 v) (h : DataW.Trod enc Try.prog W 0 sp held 32 v d p) :
    ∃ A n c l, v = .slice A n c ∧ ArgDds W A n l := by
  obtain ⟨A, n, c, rfl⟩ := okWide_slice Try.underlying32 hv
  obtain ⟨fuel, hf⟩ := h
  rcases open_slice Try.underlying32 hf with ⟨hcs, _⟩ | ⟨ad, len, cap, m, k, D, Pl, hcs, _, hl, hm, hmm, hx, hi⟩
  · simp [Value.cells] at hcs
    obtain ⟨rfl, rfl, rfl⟩ := hcs
    exact ⟨none, 0, 0, [], rfl, rfl, Nat.zero_le _, fun _ h => (List.not_mem_nil h).elim, fun h => absurd h (by omega)⟩
  · simp [Value.cells] at hcs
    obtain ⟨rfl, rfl, rfl⟩ := hcs
    have hlm : n ≤ m := by rw [hmm]; split <;> omega
    have hq : ∀ i, i < n → ∃ d : Dd, (∀ (j : Nat) (u : Value), ([Value.int .i64 d.kind, .int .i64 d.k, .int .i64 d.p.src, .int .i64 d.p.dst, .string d.p.data] : List Value)[j]? = some u → W.cell? (ad.add (i * 5 + j)) = some u) ∧ I64 d.kind ∧ I64 d.k := by
      intro i hin
      obtain ⟨cs', hc, ht⟩ := hi i (by omega)
      rw [cells5] at hc
      obtain ⟨q, rfl, b1, b2⟩ := trod_dd ht
      obtain ⟨_, _, hat⟩ := World.cells?_some hc
      refine ⟨q, fun j u hu => ?_, b1, b2⟩
      have hj : j < 5 := (List.getElem?_eq_some_iff.1 hu).1
      have := hat j hj
      rw [add_plus] at this
      exact this.trans hu
    obtain ⟨f, hf'⟩ := choose_lt hq
    refine ⟨some ad, n, c, (List.range n).map f, rfl, by rw [List.length_map, List.length_range], Nat.le_trans hl hm, ?_, fun hn => ?_⟩
    · intro q hq'
      obtain ⟨i, hi', rfl⟩ := List.mem_map.1 hq'
      exact (hf' i (List.mem_range.1 hi')).2
    · obtain ⟨b, o, spot⟩ := ad
      have h0 := (hf' 0 hn).1 0 _ rfl
      have hspot : spot = none := by simpa [Addr.add] using World.cell?_spot h0
      subst hspot
      refine ⟨b, o, rfl, World.block_lt_of_cell? W _ h0, ?_⟩
      intro i q hi'
      rw [List.getElem?_map] at hi'
      by_cases hin : i < n
      · rw [List.getElem?_range hin] at hi'
        simp only [Option.map_some, Option.some.injEq] at hi'
        subst hi'
        have := (hf' i hin).1
        simp only [Addr.add_lit, ← Nat.add_assoc] at this
        exact ⟨this 0 _ rfl, this 1 _ rfl, this 2 _ rfl, this 3 _ rfl, this 4 _ rfl⟩
      · rw [List.getElem?_eq_none (by simpa using hin)] at hi'
        cases hi'

theorem open_pk {v : Value} {d : DataW H} {p : List MemPlace} (hv : Value.okWide Try.prog W .any base 28 v) (h : DataW.Trod enc Try.prog W 0 sp held 28 v d p) : ∃ q : Pk, v = q.agg ∧ I64 q.src ∧ I64 q.dst := by
  obtain ⟨cs, rfl, _⟩ := okWide_struct Try.underlying28 hv
  obtain ⟨fuel, hf⟩ := h
  obtain ⟨q, hq, b1, b2, _⟩ := trod_pk hf
  refine ⟨q, ?_, b1, b2⟩
  unfold Pk.agg
  congr 1
  exact Array.toList_inj.1 hq
end

theorem countP_append (p q : Pk) (L : List Pk) : countP p (L ++ [q]) = countP p L + if q = p then 1 else 0 := by
  unfold countP
  rw [List.filter_append, List.length_append]
  by_cases h : q = p <;> simp [h]
theorem countP_erase (p : Pk) : ∀ (L : List Pk) (i : Nat) (q : Pk), L[i]? = some q → countP p (L.eraseIdx i) + (if q = p then 1 else 0) = countP p L
  | [], _, _, h => by simp at h
  | x :: L, 0, q, h => by
    simp only [List.getElem?_cons_zero, Option.some.injEq] at h
    subst h
    unfold countP
    by_cases h : x = p <;> simp [h]
  | x :: L, i + 1, q, h => by
    have ih := countP_erase p L i q (by simpa using h)
    unfold countP at ih ⊢
    simp only [List.eraseIdx_cons_succ, List.filter_cons]
    by_cases hx : x = p
    · simp only [hx, decide_true, if_true, List.length_cons]
      omega
    · simp only [hx, decide_false, Bool.false_eq_true, if_false]
      exact ih
end Go.Proofs.Ytnccgbcmencncaa
