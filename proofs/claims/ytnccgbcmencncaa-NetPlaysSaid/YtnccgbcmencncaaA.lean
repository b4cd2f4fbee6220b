/- Arguments: a packet, and a slice of packets, as they came in. -/
import Derived.Test.YtnccgbcmencncaaN8
import Derived.ProofKit
import Derived.OpenShut
import Derived.Deep.Slices
import Derived.Deep.Fields
import Derived.ChangeSame
import Derived.SizedLaws
namespace Go.Proofs.Ytnccgbcmencncaa
open Go.RowKit Go.ChangeShapes Go.WideShapes Go.Deep

instance : Inhabited Pk := ⟨⟨0, 0, .empty⟩⟩

def Pk.ok (q : Pk) : Prop := I64 q.src ∧ I64 q.dst ∧ q.data.size ≤ 140737488351232

/-- A slice of packets that came in. -/
def ArgPks (w : World) (A : Option Addr) (n : Nat) (l : List Pk) : Prop :=
  l.length = n ∧ n ≤ maxLen ∧ (∀ q ∈ l, q.ok) ∧ (0 < n → ∃ b o, A = some ⟨b, o, none⟩ ∧ b < w.heap.size ∧ ∀ i q, l[i]? = some q → w.cell? ⟨b, o + i * 3, none⟩ = some (.int .i64 q.src) ∧ w.cell? ⟨b, o + i * 3 + 1, none⟩ = some (.int .i64 q.dst) ∧ w.cell? ⟨b, o + i * 3 + 2, none⟩ = some (.string q.data))

section
variable {H : Type} {enc : TypeId × Value → H} {W : World} {base : Nat} {sp : Nat → Bool} {held : Bool}

theorem cells3 : Try.prog.cellsOf 28 = 3 := by kernel_rfl
theorem add_plus (a : Addr) (i j : Nat) : (a.add i).add j = a.add (i + j) := by
  unfold Addr.add
  by_cases hi : i = 0 <;> by_cases hj : j = 0 <;> simp [hi, hj, Nat.add_assoc]

/-- One packet's cells, read as data. -/
theorem trod_pk {n : Nat} {cs : List Value} {x : DataW H × List MemPlace} (h : DataW.trod enc Try.prog W base sp held n 28 cs = some x) :
    ∃ q : Pk, cs = q.cells ∧ I64 q.src ∧ I64 q.dst ∧ x.1 = .agg [.lit (.int .i64 q.src), .lit (.int .i64 q.dst), .lit (.string q.data.data.toList)] := by
  obtain ⟨xs, m, _, hx, hlen, hxl, hf⟩ := DataW.trod_struct Try.underlying28 h
  have e0 := hf 0 _ rfl
  have e1 := hf 1 _ rfl
  have e2 := hf 2 _ rfl
  rw [cells3] at hlen
  match cs, hlen with
  | [c0, c1, c2], _ =>
    match xs, hxl with
    | [y0, y1, y2], _ =>
      have k3 : Try.prog.cellsOf 3 = 1 := by kernel_rfl
      have k9 : Try.prog.cellsOf 9 = 1 := by kernel_rfl
      simp only [List.getElem_toArray, List.getElem_cons_zero, List.getElem_cons_succ, k3, k9, List.drop_zero, List.drop_succ_cons, List.take_succ_cons, List.take_zero, List.getElem?_cons_zero, List.getElem?_cons_succ] at e0 e1 e2
      obtain ⟨a, h0, g0, w0⟩ := DataW.trod_int Try.underlying3 e0
      obtain ⟨b, h1, g1, w1⟩ := DataW.trod_int Try.underlying3 e1
      obtain ⟨s, h2, g2, w2⟩ := DataW.trod_string Try.underlying9 e2
      simp only [List.cons.injEq, and_true] at h0 h1 h2
      subst h0; subst h1; subst h2
      refine ⟨⟨a, b, s⟩, rfl, bounds_i64 w0, bounds_i64 w1, ?_⟩
      rw [hx, g0, g1, g2]
      rfl

theorem weights_all {e : TypeId} {f : Nat → DataW H} {len i : Nat} (hi : i < len) : ∀ n ∈ (f i).weights Try.prog e, n ∈ DataW.weightsAll Try.prog e ((List.range len).map f) := by
  have key : ∀ (l : List (DataW H)) (d : DataW H), d ∈ l → ∀ n ∈ d.weights Try.prog e, n ∈ DataW.weightsAll Try.prog e l := by
    intro l
    induction l with
    | nil => intro d hd; cases hd
    | cons x l ih =>
      intro d hd n hn
      simp only [DataW.weightsAll, List.mem_append]
      rcases List.mem_cons.1 hd with rfl | hd
      · exact .inl hn
      · exact .inr (ih d hd n hn)
  exact key _ _ (List.mem_map.2 ⟨i, List.mem_range.2 hi, rfl⟩)

theorem open_pks {v : Value} {d : DataW H} {p : List MemPlace} (hv : Value.okWide Try.prog W .any base 22 v) (h : DataW.Trod enc Try.prog W 0 sp held 22 v d p) (hs : ∀ n ∈ d.weights Try.prog 22, n ≤ reachBytes) :
    ∃ A n c l, v = .slice A n c ∧ ArgPks W A n l := by
  obtain ⟨A, n, c, rfl⟩ := okWide_slice Try.underlying22 hv
  obtain ⟨fuel, hf⟩ := h
  rcases open_slice Try.underlying22 hf with ⟨hcs, _⟩ | ⟨ad, len, cap, m, k, D, Pl, hcs, _, hl, hm, hmm, hx, hi⟩
  · simp [Value.cells] at hcs
    obtain ⟨rfl, rfl, rfl⟩ := hcs
    exact ⟨none, 0, 0, [], rfl, rfl, Nat.zero_le _, fun _ h => (List.not_mem_nil h).elim, fun h => absurd h (by omega)⟩
  · simp [Value.cells] at hcs
    obtain ⟨rfl, rfl, rfl⟩ := hcs
    have hlm : n ≤ m := by rw [hmm]; split <;> omega
    have hq : ∀ i, i < n → ∃ q : Pk, (W.cell? (ad.add (i * 3)) = some (.int .i64 q.src) ∧ W.cell? (ad.add (i * 3 + 1)) = some (.int .i64 q.dst) ∧ W.cell? (ad.add (i * 3 + 2)) = some (.string q.data)) ∧ q.ok := by
      intro i hin
      obtain ⟨cs', hc, ht⟩ := hi i (by omega)
      rw [cells3] at hc
      obtain ⟨q, rfl, b1, b2, hD⟩ := trod_pk ht
      obtain ⟨_, _, hat⟩ := World.cells?_some hc
      have t0 := hat 0 (by omega)
      have t1 := hat 1 (by omega)
      have t2 := hat 2 (by omega)
      rw [add_plus] at t0 t1 t2
      refine ⟨q, ⟨by simpa [Pk.cells] using t0, by simpa [Pk.cells] using t1, by simpa [Pk.cells] using t2⟩, b1, b2, ?_⟩
      have hd : d = (.slice ((List.range n).map D) ((List.range (m - n)).map fun j => D (n + j)) : DataW H) := congrArg Prod.fst hx
      have hw : q.data.data.toList.length ∈ d.weights Try.prog 22 := by
        rw [hd]
        have e := weights_all (e := 28) (f := D) hin q.data.data.toList.length (by
          have hD' : D i = .agg [.lit (.int .i64 q.src), .lit (.int .i64 q.dst), .lit (.string q.data.data.toList)] := hD
          rw [hD']
          simp [DataW.weights, DataW.weightsEach, Try.underlying28])
        unfold DataW.weights
        rw [Try.underlying22]
        exact List.mem_cons_of_mem _ (List.mem_append_left _ e)
      have := hs _ hw
      have e2 : q.data.size = q.data.data.toList.length := by rw [Array.length_toList]; rfl
      rw [e2]
      exact this
    obtain ⟨f, hf'⟩ := choose_lt hq
    refine ⟨some ad, n, c, (List.range n).map f, rfl, by rw [List.length_map, List.length_range], Nat.le_trans hl hm, ?_, fun hn => ?_⟩
    · intro q hq'
      obtain ⟨i, hi', rfl⟩ := List.mem_map.1 hq'
      exact (hf' i (List.mem_range.1 hi')).2
    · obtain ⟨b, o, spot⟩ := ad
      have h0 := (hf' 0 hn).1.1
      have hspot : spot = none := by simpa [Addr.add] using World.cell?_spot h0
      subst hspot
      refine ⟨b, o, rfl, World.block_lt_of_cell? W _ h0, ?_⟩
      intro i q hi'
      rw [List.getElem?_map] at hi'
      by_cases hin : i < n
      · rw [List.getElem?_range hin] at hi'
        simp only [Option.map_some, Option.some.injEq] at hi'
        subst hi'
        have := (hf' i hin).1
        simpa only [Addr.add_lit, Nat.add_assoc] using this
      · rw [List.getElem?_eq_none (by simpa using hin)] at hi'
        cases hi'
end

/-- One packet's text turned, in a row of the call's own. -/
theorem pks_set : ∀ (l : List Pk) (i : Nat) (q : Pk) (d : ByteArray), l[i]? = some q → (pks l).set (i * 3 + 2) (.string d) = pks (l.set i ⟨q.src, q.dst, d⟩)
  | [], _, _, _, h => by simp at h
  | p :: l, 0, q, d, h => by
    simp only [List.getElem?_cons_zero, Option.some.injEq] at h
    subst h
    simp [pks, Pk.cells]
  | p :: l, i + 1, q, d, h => by
    have ih := pks_set l i q d (by simpa using h)
    have e : (i + 1) * 3 + 2 = (i * 3 + 2) + 1 + 1 + 1 := by omega
    rw [e]
    simp only [pks, List.flatMap_cons, Pk.cells, List.set_cons_succ, List.cons_append, List.nil_append] at ih ⊢
    rw [ih]

theorem own_setText {w : World} {base g cap : Nat} {l : List Pk} {i : Nat} {q : Pk} (h : w.ownsRow base 28 3 (.slice (some ⟨g, 0, none⟩) l.length cap) l.length (pks l)) (hq : l[i]? = some q) (d : ByteArray) :
    (w.setCell ⟨g, i * 3 + 2, none⟩ (.string d)).ownsRow base 28 3 (.slice (some ⟨g, 0, none⟩) l.length cap) l.length (pks (l.set i ⟨q.src, q.dst, d⟩)) := by
  obtain ⟨cur, hbase, hb, hl, hm, hs, ht⟩ := own_cur h
  have hi : i < l.length := (List.getElem?_eq_some_iff.1 hq).1
  refine ⟨by rw [pks_len, List.length_set], .inr ⟨g, cap, _, rfl, hbase, hb.set_ (i * 3 + 2) (.string d), hl, hm, by simpa using hs, ?_⟩⟩
  rw [Array.toList_setIfInBounds, List.take_set, ht, pks_set l i q d hq]
end Go.Proofs.Ytnccgbcmencncaa
