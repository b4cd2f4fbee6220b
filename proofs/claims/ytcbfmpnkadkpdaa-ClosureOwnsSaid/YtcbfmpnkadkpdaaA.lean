/- Arguments: entries, and texts, as they came in. -/
import Derived.Test.YtcbfmpnkadkpdaaC17
import Derived.ProofKit
import Derived.OpenShut
import Derived.Deep.Slices
import Derived.Deep.Fields
import Derived.ChangeSame
import Derived.SizedLaws
set_option linter.unusedVariables false
namespace Go.Proofs.Ytcbfmpnkadkpdaa
open Go.RowKit Go.ChangeShapes Go.WideShapes Go.Deep

def I64 (a : Int) : Prop := -9223372036854775808 ≤ a ∧ a ≤ 9223372036854775807

section
variable {H : Type} {enc : TypeId × Value → H} {W : World} {base : Nat} {sp : Nat → Bool} {held : Bool}

theorem cells5 : Try.prog.cellsOf 28 = 5 := by kernel_rfl
theorem bytes9 : Try.prog.bytesOf 9 = 16 := by kernel_rfl
theorem add_plus (a : Addr) (i j : Nat) : (a.add i).add j = a.add (i + j) := by
  unfold Addr.add
  by_cases hi : i = 0 <;> by_cases hj : j = 0 <;> simp [hi, hj, Nat.add_assoc]
theorem weights_all {e : TypeId} {f : Nat → DataW H} {len i : Nat} (hi : i < len) : ∀ n ∈ (f i).weights Try.prog e, n ∈ DataW.weightsAll Try.prog e ((List.range len).map f) := by
  have key : ∀ (l : List (DataW H)) (d : DataW H), d ∈ l → ∀ n ∈ d.weights Try.prog e, n ∈ DataW.weightsAll Try.prog e l := by
    intro l
    induction l with
    | nil => intro d hd; cases hd
    | cons x l ih =>
      intro d hd n hn
      simp only [DataW.weightsAll, List.mem_append]
      rcases List.mem_cons.1 hd with rfl | hd
      · exact .inl hn
      · exact .inr (ih d hd n hn)
  exact key _ _ (List.mem_map.2 ⟨i, List.mem_range.2 hi, rfl⟩)

/-- Texts that came in. -/
structure ArgStrs (w : World) (A : Option Addr) (c : Nat) (ss : List ByteArray) : Prop where
  at_ : StrsAt w A ss
  cap : ss.length ≤ c
  capm : c ≤ maxLen
  nil : A = none → ss.length = 0 ∧ c = 0

theorem trod_strs {fuel : Nat} {cs : List Value} {x : DataW H × List MemPlace} (h : DataW.trod enc Try.prog W base sp held fuel 26 cs = some x) :
    ∃ (A : Option Addr) (c : Nat) (ss : List ByteArray), cs = [.slice A ss.length c] ∧ ArgStrs W A c ss ∧ (0 < ss.length → ss.length * 16 ≤ (ss.length + c) * 16 ∧ ∃ n ∈ x.1.weights Try.prog 26, ss.length * 16 ≤ n) ∧ ∀ s ∈ ss, s.size ∈ x.1.weights Try.prog 26 := by
  have c9 : Try.prog.cellsOf 9 = 1 := by kernel_rfl
  rcases open_slice1 Try.underlying26 c9 h with ⟨hcs, _⟩ | ⟨ad, len, cap, m, k, V, D, Pl, hcs, _, hl, hm, hmm, hx, hi⟩
  · exact ⟨none, 0, [], hcs, ⟨fun hp => absurd hp (Nat.lt_irrefl 0), Nat.zero_le _, Nat.zero_le _, fun _ => ⟨rfl, rfl⟩⟩, fun h => absurd h (Nat.lt_irrefl 0), fun _ h => absurd h (List.not_mem_nil)⟩
  · have hlm : len ≤ m := by rw [hmm]; split <;> omega
    have hq : ∀ i, i < len → ∃ z : ByteArray, W.cell? (ad.add i) = some (.string z) ∧ z.size ∈ (D i).weights Try.prog 9 := by
      intro i hin
      obtain ⟨h1, h2⟩ := hi i (by omega)
      obtain ⟨z, hz, g, _⟩ := DataW.trod_string Try.underlying9 h2
      simp only [List.cons.injEq, and_true] at hz
      refine ⟨z, by rw [h1, hz], ?_⟩
      have hD : D i = .lit (.string z.data.toList) := congrArg Prod.fst g
      rw [hD]
      have e2 : z.size = z.data.toList.length := by rw [Array.length_toList]; rfl
      unfold DataW.weights
      rw [e2]
      exact List.mem_singleton.2 rfl
    obtain ⟨f, hf'⟩ := choose_lt hq
    have hd : x.1 = (.slice ((List.range len).map D) ((List.range (m - len)).map fun j => D (len + j)) : DataW H) := congrArg Prod.fst hx
    refine ⟨some ad, cap, (List.range len).map f, by rw [List.length_map, List.length_range]; exact hcs, ⟨fun hp => ?_, by rw [List.length_map, List.length_range]; exact hl, hm, fun h => by cases h⟩, fun hp => ?_, fun s hs => ?_⟩
    · rw [List.length_map, List.length_range] at hp
      obtain ⟨b, o, spot⟩ := ad
      have h0 := (hf' 0 hp).1
      have hspot : spot = none := by simpa [Addr.add] using World.cell?_spot h0
      subst hspot
      have h0' := h0
      rw [Addr.add_lit] at h0'
      refine ⟨b, o, rfl, World.block_lt_of_cell? W _ h0', fun i hi' => ?_⟩
      rw [List.length_map, List.length_range] at hi'
      have := (hf' i hi').1
      rw [Addr.add_lit] at this
      rw [this]
      simp
    · refine ⟨by omega, (((List.range len).map D).length + ((List.range (m - len)).map fun j => D (len + j)).length) * Try.prog.bytesOf 9, ?_, ?_⟩
      · rw [hd]
        unfold DataW.weights
        rw [Try.underlying26]
        exact List.mem_cons_self
      · rw [bytes9]
        simp only [List.length_map, List.length_range]
        omega
    · obtain ⟨i, hi', rfl⟩ := List.mem_map.1 hs
      rw [hd]
      unfold DataW.weights
      rw [Try.underlying26]
      exact List.mem_cons_of_mem _ (List.mem_append_left _ (weights_all (List.mem_range.1 hi') _ (hf' i (List.mem_range.1 hi')).2))
theorem each_mem {ts : List TypeId} {ds : List (DataW H)} {j : Nat} {t : TypeId} {d : DataW H} (ht : ts[j]? = some t) (hd : ds[j]? = some d) (n : Nat) (hn : n ∈ d.weights Try.prog t) : n ∈ DataW.weightsEach Try.prog ts ds :=
  DataW.weights_mem_each ht hd n hn

/-- An entry that came in. -/
structure ArgEn (w : World) (e : En) : Prop where
  strs : ArgStrs w e.A e.c e.sel
  path : e.path.size ≤ reachBytes
  parent : e.parent.size ≤ reachBytes
  len : e.sel.length * 16 ≤ reachBytes
  sel : ∀ s ∈ e.sel, s.size ≤ reachBytes
  n : I64 e.n
  ttl : I64 e.ttl

theorem trod_en {n : Nat} {cs : List Value} {x : DataW H × List MemPlace} (h : DataW.trod enc Try.prog W base sp held n 28 cs = some x) (hs : ∀ n ∈ x.1.weights Try.prog 28, n ≤ reachBytes) : ∃ e : En, cs = e.cells ∧ ArgEn W e := by
  obtain ⟨xs, m, _, hx, hlen, hxl, hf⟩ := DataW.trod_struct Try.underlying28 h
  have e0 := hf 0 _ rfl
  have e1 := hf 1 _ rfl
  have e2 := hf 2 _ rfl
  have e3 := hf 3 _ rfl
  have e4 := hf 4 _ rfl
  rw [cells5] at hlen
  match cs, hlen with
  | [c0, c1, c2, c3, c4], _ =>
    match xs, hxl with
    | [y0, y1, y2, y3, y4], _ =>
      have k3 : Try.prog.cellsOf 3 = 1 := by kernel_rfl
      have k9 : Try.prog.cellsOf 9 = 1 := by kernel_rfl
      have k26 : Try.prog.cellsOf 26 = 1 := by kernel_rfl
      simp only [List.getElem_toArray, List.getElem_cons_zero, List.getElem_cons_succ, k3, k9, k26, List.drop_zero, List.drop_succ_cons, List.take_succ_cons, List.take_zero, List.getElem?_cons_zero, List.getElem?_cons_succ] at e0 e1 e2 e3 e4
      obtain ⟨a0, h0, g0, w0⟩ := DataW.trod_int Try.underlying3 e0
      obtain ⟨a1, h1, g1, w1⟩ := DataW.trod_string Try.underlying9 e1
      obtain ⟨a2, h2, g2, w2⟩ := DataW.trod_string Try.underlying9 e2
      obtain ⟨a3, h3, g3, w3⟩ := DataW.trod_int Try.underlying3 e3
      obtain ⟨A, c, ss, h4, hS, hw1, hw2⟩ := trod_strs e4
      simp only [List.cons.injEq, and_true] at h0 h1 h2 h3 h4
      subst h0; subst h1; subst h2; subst h3; subst h4
      have hxd : x.1 = (.agg [y0.1, y1.1, y2.1, y3.1, y4.1] : DataW H) := by rw [hx]; rfl
      have hW : ∀ n, n ∈ DataW.weightsEach Try.prog [3, 9, 9, 3, 26] [y0.1, y1.1, y2.1, y3.1, y4.1] → n ≤ reachBytes := fun n hn => hs n (by
        rw [hxd]
        unfold DataW.weights
        rw [Try.underlying28]
        exact hn)
      have s1 : a1.size ≤ reachBytes := hW _ (each_mem (j := 1) (t := 9) (d := y1.1) rfl rfl _ (by
        have : y1.1 = .lit (.string a1.data.toList) := by rw [g1]
        rw [this]
        have e2 : a1.size = a1.data.toList.length := by rw [Array.length_toList]; rfl
        unfold DataW.weights
        rw [e2]
        exact List.mem_singleton.2 rfl))
      have s2 : a2.size ≤ reachBytes := hW _ (each_mem (j := 2) (t := 9) (d := y2.1) rfl rfl _ (by
        have : y2.1 = .lit (.string a2.data.toList) := by rw [g2]
        rw [this]
        have e2 : a2.size = a2.data.toList.length := by rw [Array.length_toList]; rfl
        unfold DataW.weights
        rw [e2]
        exact List.mem_singleton.2 rfl))
      refine ⟨⟨a0, a1, a2, a3, A, c, ss⟩, rfl, hS, s1, s2, ?_, fun s hs' => hW _ (each_mem (j := 4) (t := 26) (d := y4.1) rfl rfl _ (hw2 s hs')), bounds_i64 w0, bounds_i64 w3⟩
      by_cases hp : 0 < ss.length
      · obtain ⟨_, nn, hn, hle⟩ := hw1 hp
        exact Nat.le_trans hle (hW _ (each_mem (j := 4) (t := 26) (d := y4.1) rfl rfl _ hn))
      · have : ss.length = 0 := by omega
        show ss.length * 16 ≤ _
        rw [this]
        exact Nat.zero_le _

/-- Entries that came in. -/
structure ArgEns (w : World) (A : Option Addr) (n c : Nat) (l : List En) : Prop where
  len : l.length = n
  cap : n ≤ c
  capm : c ≤ maxLen
  each : ∀ e ∈ l, ArgEn w e
  at_ : 0 < n → ∃ b o, A = some ⟨b, o, none⟩ ∧ b < w.heap.size ∧ ∀ i, (h : i < l.length) → EAt w b (o + i * 5) l[i]

theorem open_ens {v : Value} {d : DataW H} {p : List MemPlace} (hv : Value.okWide Try.prog W .any base 22 v) (h : DataW.Trod enc Try.prog W 0 sp held 22 v d p) (hs : ∀ n ∈ d.weights Try.prog 22, n ≤ reachBytes) :
    ∃ A n c l, v = .slice A n c ∧ ArgEns W A n c l := by
  obtain ⟨A, n, c, rfl⟩ := okWide_slice Try.underlying22 hv
  obtain ⟨fuel, hf⟩ := h
  rcases open_slice Try.underlying22 hf with ⟨hcs, _⟩ | ⟨ad, len, cap, m, k, D, Pl, hcs, _, hl, hm, hmm, hx, hi⟩
  · simp [Value.cells] at hcs
    obtain ⟨rfl, rfl, rfl⟩ := hcs
    exact ⟨none, 0, 0, [], rfl, rfl, Nat.le_refl _, Nat.zero_le _, fun _ h => (List.not_mem_nil h).elim, fun h => absurd h (by omega)⟩
  · simp [Value.cells] at hcs
    obtain ⟨rfl, rfl, rfl⟩ := hcs
    have hlm : n ≤ m := by rw [hmm]; split <;> omega
    have hd : d = (.slice ((List.range n).map D) ((List.range (m - n)).map fun j => D (n + j)) : DataW H) := congrArg Prod.fst hx
    have hq : ∀ i, i < n → ∃ q : En, (∀ (j : Nat) (u : Value), q.cells[j]? = some u → W.cell? (ad.add (i * 5 + j)) = some u) ∧ ArgEn W q := by
      intro i hin
      obtain ⟨cs', hc, ht⟩ := hi i (by omega)
      rw [cells5] at hc
      obtain ⟨q, rfl, ok⟩ := trod_en ht (fun nn hn => hs nn (by
        rw [hd]
        unfold DataW.weights
        rw [Try.underlying22]
        exact List.mem_cons_of_mem _ (List.mem_append_left _ (weights_all hin _ hn))))
      obtain ⟨_, _, hat⟩ := World.cells?_some hc
      refine ⟨q, fun j u hu => ?_, ok⟩
      have hj : j < 5 := (List.getElem?_eq_some_iff.1 hu).1
      have := hat j hj
      rw [add_plus] at this
      exact this.trans hu
    obtain ⟨f, hf'⟩ := choose_lt hq
    refine ⟨some ad, n, c, (List.range n).map f, rfl, by rw [List.length_map, List.length_range], hl, hm, ?_, fun hn => ?_⟩
    · intro q hq'
      obtain ⟨i, hi', rfl⟩ := List.mem_map.1 hq'
      exact (hf' i (List.mem_range.1 hi')).2
    · obtain ⟨b, o, spot⟩ := ad
      have h0 := (hf' 0 hn).1 0 _ rfl
      have hspot : spot = none := by simpa [Addr.add] using World.cell?_spot h0
      subst hspot
      refine ⟨b, o, rfl, World.block_lt_of_cell? W _ h0, ?_⟩
      intro i hi'
      rw [List.length_map, List.length_range] at hi'
      have := (hf' i hi').1
      refine eat_of fun j u hu => ?_
      rw [List.getElem_map, List.getElem_range] at hu
      have := this j u hu
      rw [Addr.add_lit, ← Nat.add_assoc] at this
      exact this

theorem text_size {s : ByteArray} (h : ∀ n ∈ (DataW.lit (.string s.data.toList) : DataW H).weights Try.prog 9, n ≤ reachBytes) : s.size ≤ reachBytes := h _ (by
  have e2 : s.size = s.data.toList.length := by rw [Array.length_toList]; rfl
  unfold DataW.weights
  rw [e2]
  exact List.mem_singleton.2 rfl)
theorem open_strs {v : Value} {d : DataW H} {p : List MemPlace} (hv : Value.okWide Try.prog W .any base 26 v) (h : DataW.Trod enc Try.prog W 0 sp held 26 v d p) (hs : ∀ n ∈ d.weights Try.prog 26, n ≤ reachBytes) :
    ∃ A c ss, v = .slice A ss.length c ∧ ArgStrs W A c ss ∧ ss.length * 16 ≤ reachBytes := by
  obtain ⟨A, n, c, rfl⟩ := okWide_slice Try.underlying26 hv
  obtain ⟨fuel, hf⟩ := h
  obtain ⟨A', c', ss, hcs, hS, hw1, _⟩ := trod_strs hf
  simp only [Value.cells, List.cons.injEq, and_true] at hcs
  refine ⟨A', c', ss, hcs, hS, ?_⟩
  by_cases hp : 0 < ss.length
  · obtain ⟨_, nn, hn, hle⟩ := hw1 hp
    exact Nat.le_trans hle (hs _ hn)
  · have : ss.length = 0 := by omega
    rw [this]
    exact Nat.zero_le _
theorem open_en {v : Value} {d : DataW H} {p : List MemPlace} (hv : Value.okWide Try.prog W .any base 28 v) (h : DataW.Trod enc Try.prog W 0 sp held 28 v d p) (hs : ∀ n ∈ d.weights Try.prog 28, n ≤ reachBytes) :
    ∃ e : En, v = e.agg ∧ ArgEn W e := by
  obtain ⟨cs, rfl, _⟩ := okWide_struct Try.underlying28 hv
  obtain ⟨fuel, hf⟩ := h
  obtain ⟨q, hq, ok⟩ := trod_en hf hs
  refine ⟨q, ?_, ok⟩
  unfold En.agg
  congr 1
  exact Array.toList_inj.1 hq
end

section
variable {w : World} {A : Option Addr} {n c : Nat} {l : List En}
theorem ArgEns.ens (h : ArgEns w A n c l) : EnsAt w A l :=
  ⟨fun hp => h.at_ (by rw [← h.len]; exact hp), fun e he => ⟨(h.each e he).strs.at_, Nat.le_trans (h.each e he).len (by unfold reachBytes; omega), (h.each e he).strs.nil⟩⟩
theorem ArgEns.sizes (h : ArgEns w A n c l) : ∀ e ∈ l, e.path.size ≤ maxLen ∧ e.parent.size ≤ maxLen := fun e he =>
  ⟨Nat.le_trans (h.each e he).path (by unfold reachBytes maxLen; omega), Nat.le_trans (h.each e he).parent (by unfold reachBytes maxLen; omega)⟩
end
end Go.Proofs.Ytcbfmpnkadkpdaa
