/- Arguments: a slice of tokens, as it came in. -/
import Derived.Test.YtffmhejkhimkcaaC7
import Derived.ProofKit
import Derived.OpenShut
import Derived.Deep.Slices
import Derived.Deep.Fields
import Derived.ChangeSame
import Derived.SizedLaws
set_option linter.unusedVariables false
namespace Go.Proofs.Ytffmhejkhimkcaa
open Go.RowKit Go.ChangeShapes Go.WideShapes Go.Deep

def I64 (x : Int) : Prop := -9223372036854775808 ≤ x ∧ x ≤ 9223372036854775807
def Kt.ok (q : Kt) : Prop := I64 q.entry ∧ I64 q.iat ∧ I64 q.exp ∧ I64 q.used

/-- A slice of tokens that came in. -/
def ArgKts (w : World) (A : Option Addr) (n : Nat) (l : List Kt) : Prop :=
  l.length = n ∧ n ≤ maxLen ∧ (∀ q ∈ l, q.ok) ∧ (0 < n → ∃ b o, A = some ⟨b, o, none⟩ ∧ b < w.heap.size ∧ ∀ i, (h : i < l.length) → KAt w b (o + i * 7) l[i])

section
variable {H : Type} {enc : TypeId × Value → H} {W : World} {base : Nat} {sp : Nat → Bool} {held : Bool}

theorem cells7 : Try.prog.cellsOf 27 = 7 := by kernel_rfl
theorem add_plus (a : Addr) (i j : Nat) : (a.add i).add j = a.add (i + j) := by
  unfold Addr.add
  by_cases hi : i = 0 <;> by_cases hj : j = 0 <;> simp [hi, hj, Nat.add_assoc]

/-- One token's cells, read as data. -/
theorem trod_kt {n : Nat} {cs : List Value} {x : DataW H × List MemPlace} (h : DataW.trod enc Try.prog W base sp held n 27 cs = some x) : ∃ q : Kt, cs = q.cells ∧ q.ok := by
  obtain ⟨xs, m, _, hx, hlen, hxl, hf⟩ := DataW.trod_struct Try.underlying27 h
  have e0 := hf 0 _ rfl
  have e1 := hf 1 _ rfl
  have e2 := hf 2 _ rfl
  have e3 := hf 3 _ rfl
  have e4 := hf 4 _ rfl
  have e5 := hf 5 _ rfl
  have e6 := hf 6 _ rfl
  rw [cells7] at hlen
  match cs, hlen with
  | [c0, c1, c2, c3, c4, c5, c6], _ =>
    match xs, hxl with
    | [y0, y1, y2, y3, y4, y5, y6], _ =>
      have k3 : Try.prog.cellsOf 3 = 1 := by kernel_rfl
      have k9 : Try.prog.cellsOf 9 = 1 := by kernel_rfl
      simp only [List.getElem_toArray, List.getElem_cons_zero, List.getElem_cons_succ, k3, k9, List.drop_zero, List.drop_succ_cons, List.take_succ_cons, List.take_zero, List.getElem?_cons_zero, List.getElem?_cons_succ] at e0 e1 e2 e3 e4 e5 e6
      obtain ⟨a0, h0, g0, w0⟩ := DataW.trod_int Try.underlying3 e0
      obtain ⟨a1, h1, g1, w1⟩ := DataW.trod_string Try.underlying9 e1
      obtain ⟨a2, h2, g2, w2⟩ := DataW.trod_string Try.underlying9 e2
      obtain ⟨a3, h3, g3, w3⟩ := DataW.trod_int Try.underlying3 e3
      obtain ⟨a4, h4, g4, w4⟩ := DataW.trod_int Try.underlying3 e4
      obtain ⟨a5, h5, g5, w5⟩ := DataW.trod_int Try.underlying3 e5
      obtain ⟨a6, h6, g6, w6⟩ := DataW.trod_string Try.underlying9 e6
      simp only [List.cons.injEq, and_true] at h0 h1 h2 h3 h4 h5 h6
      subst h0
      subst h1
      subst h2
      subst h3
      subst h4
      subst h5
      subst h6
      exact ⟨⟨a0, a1, a2, a3, a4, a5, a6⟩, rfl, bounds_i64 w0, bounds_i64 w3, bounds_i64 w4, bounds_i64 w5⟩

theorem open_kts {v : Value} {d : DataW H} {p : List MemPlace} (hv : Value.okWide Try.prog W .any base 22 v) (h : DataW.Trod enc Try.prog W 0 sp held 22 v d p) :
    ∃ A n c l, v = .slice A n c ∧ ArgKts W A n l := by
  obtain ⟨A, n, c, rfl⟩ := okWide_slice Try.underlying22 hv
  obtain ⟨fuel, hf⟩ := h
  rcases open_slice Try.underlying22 hf with ⟨hcs, _⟩ | ⟨ad, len, cap, m, k, D, Pl, hcs, _, hl, hm, hmm, hx, hi⟩
  · simp [Value.cells] at hcs
    obtain ⟨rfl, rfl, rfl⟩ := hcs
    exact ⟨none, 0, 0, [], rfl, rfl, Nat.zero_le _, fun _ h => (List.not_mem_nil h).elim, fun h => absurd h (by omega)⟩
  · simp [Value.cells] at hcs
    obtain ⟨rfl, rfl, rfl⟩ := hcs
    have hlm : n ≤ m := by rw [hmm]; split <;> omega
    have hq : ∀ i, i < n → ∃ q : Kt, (∀ (j : Nat) (u : Value), q.cells[j]? = some u → W.cell? (ad.add (i * 7 + j)) = some u) ∧ q.ok := by
      intro i hin
      obtain ⟨cs', hc, ht⟩ := hi i (by omega)
      rw [cells7] at hc
      obtain ⟨q, rfl, ok⟩ := trod_kt ht
      obtain ⟨_, _, hat⟩ := World.cells?_some hc
      refine ⟨q, fun j u hu => ?_, ok⟩
      have hj : j < 7 := (List.getElem?_eq_some_iff.1 hu).1
      have := hat j hj
      rw [add_plus] at this
      exact this.trans hu
    obtain ⟨f, hf'⟩ := choose_lt hq
    refine ⟨some ad, n, c, (List.range n).map f, rfl, by rw [List.length_map, List.length_range], Nat.le_trans hl hm, ?_, fun hn => ?_⟩
    · intro q hq'
      obtain ⟨i, hi', rfl⟩ := List.mem_map.1 hq'
      exact (hf' i (List.mem_range.1 hi')).2
    · obtain ⟨b, o, spot⟩ := ad
      have h0 := (hf' 0 hn).1 0 _ rfl
      have hspot : spot = none := by simpa [Addr.add] using World.cell?_spot h0
      subst hspot
      refine ⟨b, o, rfl, World.block_lt_of_cell? W _ h0, ?_⟩
      intro i hi'
      rw [List.length_map, List.length_range] at hi'
      have := (hf' i hi').1
      refine kat_of fun j u hu => ?_
      rw [List.getElem_map, List.getElem_range] at hu
      have := this j u hu
      rw [Addr.add_lit, ← Nat.add_assoc] at this
      exact this
end
end Go.Proofs.Ytffmhejkhimkcaa
