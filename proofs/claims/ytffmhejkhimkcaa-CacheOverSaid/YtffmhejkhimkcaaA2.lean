/- Arguments: a slice of deeds, as it came in. -/
import Derived.Test.YtffmhejkhimkcaaA
import Derived.Test.YtffmhejkhimkcaaE3
set_option linter.unusedVariables false
namespace Go.Proofs.Ytffmhejkhimkcaa
open Go.RowKit Go.ChangeShapes Go.WideShapes Go.Deep

/-- Something that is asked of a cache. -/
structure Dd where
  kind : Int
  k : Kt
  now : Int
  A : Option Addr
  c : Nat
  es : List Int
instance : Inhabited Dd := ⟨⟨0, default, 0, none, 0, []⟩⟩
abbrev Dd.agg (d : Dd) : Value := .agg #[.int .i64 d.kind, .int .i64 d.k.entry, .string d.k.aud, .string d.k.token, .int .i64 d.k.iat, .int .i64 d.k.exp, .int .i64 d.k.used, .string d.k.needs, .int .i64 d.now, .slice d.A d.es.length d.c]
def Dd.cells (d : Dd) : List Value := [.int .i64 d.kind, .int .i64 d.k.entry, .string d.k.aud, .string d.k.token, .int .i64 d.k.iat, .int .i64 d.k.exp, .int .i64 d.k.used, .string d.k.needs, .int .i64 d.now, .slice d.A d.es.length d.c]

/-- One deed's cells, in block g from place o on. -/
def DAt (w : World) (g o : Nat) (d : Dd) : Prop :=
  w.cell? ⟨g, o, none⟩ = some (.int .i64 d.kind) ∧ w.cell? ⟨g, o + 1, none⟩ = some (.int .i64 d.k.entry) ∧ w.cell? ⟨g, o + 2, none⟩ = some (.string d.k.aud) ∧ w.cell? ⟨g, o + 3, none⟩ = some (.string d.k.token) ∧ w.cell? ⟨g, o + 4, none⟩ = some (.int .i64 d.k.iat) ∧ w.cell? ⟨g, o + 5, none⟩ = some (.int .i64 d.k.exp) ∧ w.cell? ⟨g, o + 6, none⟩ = some (.int .i64 d.k.used) ∧ w.cell? ⟨g, o + 7, none⟩ = some (.string d.k.needs) ∧ w.cell? ⟨g, o + 8, none⟩ = some (.int .i64 d.now) ∧ w.cell? ⟨g, o + 9, none⟩ = some (.slice d.A d.es.length d.c)
theorem dat_of {w : World} {g o : Nat} {d : Dd} (h : ∀ (j : Nat) (u : Value), d.cells[j]? = some u → w.cell? ⟨g, o + j, none⟩ = some u) : DAt w g o d :=
  ⟨h 0 _ rfl, h 1 _ rfl, h 2 _ rfl, h 3 _ rfl, h 4 _ rfl, h 5 _ rfl, h 6 _ rfl, h 7 _ rfl, h 8 _ rfl, h 9 _ rfl⟩
theorem DAt.below {w w' : World} {B g o : Nat} {d : Dd} (h : DAt w g o d) (hb : Below B w w') (hg : g < B) : DAt w' g o d := by
  obtain ⟨h0, h1, h2, h3, h4, h5, h6, h7, h8, h9⟩ := h
  exact ⟨(hb.cell (p := ⟨g, o, none⟩) hg).trans h0, (hb.cell (p := ⟨g, o + 1, none⟩) hg).trans h1, (hb.cell (p := ⟨g, o + 2, none⟩) hg).trans h2, (hb.cell (p := ⟨g, o + 3, none⟩) hg).trans h3, (hb.cell (p := ⟨g, o + 4, none⟩) hg).trans h4, (hb.cell (p := ⟨g, o + 5, none⟩) hg).trans h5, (hb.cell (p := ⟨g, o + 6, none⟩) hg).trans h6, (hb.cell (p := ⟨g, o + 7, none⟩) hg).trans h7, (hb.cell (p := ⟨g, o + 8, none⟩) hg).trans h8, (hb.cell (p := ⟨g, o + 9, none⟩) hg).trans h9⟩

/-- What a deed that came in is. -/
def Dd.good (w : World) (d : Dd) : Prop := d.k.ok ∧ IntsAt w d.A d.es ∧ d.es.length ≤ maxLen

/-- A slice of deeds that came in. -/
def ArgDds (w : World) (A : Option Addr) (n : Nat) (l : List Dd) : Prop :=
  l.length = n ∧ n ≤ maxLen ∧ (∀ d ∈ l, d.good w) ∧ (0 < n → ∃ b o, A = some ⟨b, o, none⟩ ∧ b < w.heap.size ∧ ∀ i, (h : i < l.length) → DAt w b (o + i * 10) l[i])

section
variable {H : Type} {enc : TypeId × Value → H} {W : World} {base : Nat} {sp : Nat → Bool} {held : Bool}

theorem cells10 : Try.prog.cellsOf 40 = 10 := by kernel_rfl

theorem trod_ints {fuel : Nat} {cs : List Value} {x : DataW H × List MemPlace} (h : DataW.trod enc Try.prog W base sp held fuel 38 cs = some x) :
    ∃ (A : Option Addr) (c : Nat) (es : List Int), cs = [.slice A es.length c] ∧ IntsAt W A es ∧ es.length ≤ maxLen := by
  have c3 : Try.prog.cellsOf 3 = 1 := by kernel_rfl
  rcases open_slice1 Try.underlying38 c3 h with ⟨hcs, _⟩ | ⟨ad, len, cap, m, k, V, D, Pl, hcs, _, hl, hm, hmm, hx, hi⟩
  · exact ⟨none, 0, [], hcs, fun hp => absurd hp (Nat.lt_irrefl 0), Nat.zero_le _⟩
  · have hlm : len ≤ m := by rw [hmm]; split <;> omega
    have hq : ∀ i, i < len → ∃ z : Int, W.cell? (ad.add i) = some (.int .i64 z) := by
      intro i hin
      obtain ⟨h1, h2⟩ := hi i (by omega)
      obtain ⟨z, hz, _⟩ := DataW.trod_int Try.underlying3 h2
      simp only [List.cons.injEq, and_true] at hz
      exact ⟨z, by rw [h1, hz]⟩
    obtain ⟨f, hf'⟩ := choose_lt hq
    refine ⟨some ad, cap, (List.range len).map f, by rw [List.length_map, List.length_range]; exact hcs, fun hp => ?_, by rw [List.length_map, List.length_range]; omega⟩
    rw [List.length_map, List.length_range] at hp
    obtain ⟨b, o, spot⟩ := ad
    have h0 := hf' 0 hp
    have hspot : spot = none := by simpa [Addr.add] using World.cell?_spot h0
    subst hspot
    have h0' := h0
    rw [Addr.add_lit] at h0'
    refine ⟨b, o, rfl, World.block_lt_of_cell? W _ h0', fun i hi' => ?_⟩
    rw [List.length_map, List.length_range] at hi'
    have := hf' i hi'
    rw [Addr.add_lit] at this
    rw [this]
    simp

theorem trod_dd {n : Nat} {cs : List Value} {x : DataW H × List MemPlace} (h : DataW.trod enc Try.prog W base sp held n 40 cs = some x) : ∃ d : Dd, cs = d.cells ∧ d.good W := by
  obtain ⟨xs, m, _, hx, hlen, hxl, hf⟩ := DataW.trod_struct Try.underlying40 h
  have e0 := hf 0 _ rfl
  have e1 := hf 1 _ rfl
  have e2 := hf 2 _ rfl
  have e3 := hf 3 _ rfl
  rw [cells10] at hlen
  match cs, hlen with
  | [c0, c1, c2, c3, c4, c5, c6, c7, c8, c9], _ =>
    match xs, hxl with
    | [y0, y1, y2, y3], _ =>
      have k3 : Try.prog.cellsOf 3 = 1 := by kernel_rfl
      have k38 : Try.prog.cellsOf 38 = 1 := by kernel_rfl
      simp only [List.getElem_toArray, List.getElem_cons_zero, List.getElem_cons_succ, k3, cells7, k38, List.drop_zero, List.drop_succ_cons, List.take_succ_cons, List.take_zero, List.getElem?_cons_zero, List.getElem?_cons_succ] at e0 e1 e2 e3
      obtain ⟨a0, h0, g0, w0⟩ := DataW.trod_int Try.underlying3 e0
      obtain ⟨q, h1, ok⟩ := trod_kt e1
      obtain ⟨a2, h2, g2, w2⟩ := DataW.trod_int Try.underlying3 e2
      obtain ⟨A, c, es, h3, hI, hml⟩ := trod_ints e3
      simp only [List.cons.injEq, and_true, Kt.cells] at h0 h1 h2 h3
      obtain ⟨rfl, rfl, rfl, rfl, rfl, rfl, rfl⟩ := h1
      subst h0; subst h2; subst h3
      exact ⟨⟨a0, q, a2, A, c, es⟩, rfl, ok, hI, hml⟩

theorem open_dds {v : Value} {d : DataW H} {p : List MemPlace} (hv : Value.okWide Try.prog W .any base 33 v) (h : DataW.Trod enc Try.prog W 0 sp held 33 v d p) :
    ∃ A n c l, v = .slice A n c ∧ ArgDds W A n l := by
  obtain ⟨A, n, c, rfl⟩ := okWide_slice Try.underlying33 hv
  obtain ⟨fuel, hf⟩ := h
  rcases open_slice Try.underlying33 hf with ⟨hcs, _⟩ | ⟨ad, len, cap, m, k, D, Pl, hcs, _, hl, hm, hmm, hx, hi⟩
  · simp [Value.cells] at hcs
    obtain ⟨rfl, rfl, rfl⟩ := hcs
    exact ⟨none, 0, 0, [], rfl, rfl, Nat.zero_le _, fun _ h => (List.not_mem_nil h).elim, fun h => absurd h (by omega)⟩
  · simp [Value.cells] at hcs
    obtain ⟨rfl, rfl, rfl⟩ := hcs
    have hlm : n ≤ m := by rw [hmm]; split <;> omega
    have hq : ∀ i, i < n → ∃ q : Dd, (∀ (j : Nat) (u : Value), q.cells[j]? = some u → W.cell? (ad.add (i * 10 + j)) = some u) ∧ q.good W := by
      intro i hin
      obtain ⟨cs', hc, ht⟩ := hi i (by omega)
      rw [cells10] at hc
      obtain ⟨q, rfl, ok⟩ := trod_dd ht
      obtain ⟨_, _, hat⟩ := World.cells?_some hc
      refine ⟨q, fun j u hu => ?_, ok⟩
      have hj : j < 10 := (List.getElem?_eq_some_iff.1 hu).1
      have := hat j hj
      rw [add_plus] at this
      exact this.trans hu
    obtain ⟨f, hf'⟩ := choose_lt hq
    refine ⟨some ad, n, c, (List.range n).map f, rfl, by rw [List.length_map, List.length_range], Nat.le_trans hl hm, ?_, fun hn => ?_⟩
    · intro q hq'
      obtain ⟨i, hi', rfl⟩ := List.mem_map.1 hq'
      exact (hf' i (List.mem_range.1 hi')).2
    · obtain ⟨b, o, spot⟩ := ad
      have h0 := (hf' 0 hn).1 0 _ rfl
      have hspot : spot = none := by simpa [Addr.add] using World.cell?_spot h0
      subst hspot
      refine ⟨b, o, rfl, World.block_lt_of_cell? W _ h0, ?_⟩
      intro i hi'
      rw [List.length_map, List.length_range] at hi'
      have := (hf' i hi').1
      refine dat_of fun j u hu => ?_
      rw [List.getElem_map, List.getElem_range] at hu
      have := this j u hu
      rw [Addr.add_lit, ← Nat.add_assoc] at this
      exact this
end
theorem ArgDds.dat {w wr : World} {A : Option Addr} {n : Nat} {l : List Dd} (h : ArgDds w A n l) (hb : Below w.heap.size w wr) (k : Nat) (hk : k < l.length) : ∃ b o, A = some ⟨b, o, none⟩ ∧ b < wr.heap.size ∧ DAt wr b (o + k * 10) l[k] := by
  obtain ⟨b, o, hA, hlt, hc⟩ := h.2.2.2 (by have := h.1; omega)
  exact ⟨b, o, hA, Nat.lt_of_lt_of_le hlt hb.size, (hc k hk).below hb hlt⟩
end Go.Proofs.Ytffmhejkhimkcaa
