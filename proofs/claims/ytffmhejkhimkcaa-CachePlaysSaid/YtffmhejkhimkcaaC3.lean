/- slices.DeleteFunc, at tokens: the walk. -/
import Derived.Test.YtffmhejkhimkcaaC2
set_option linter.unusedVariables false
namespace Go.Proofs.Ytffmhejkhimkcaa
open Go.RowKit

def zc : Array Value := #[.int .i64 0, .string ⟨#[]⟩, .string ⟨#[]⟩, .int .i64 0, .int .i64 0, .int .i64 0, .string ⟨#[]⟩]
def zs (m : Nat) : List Value := (Builtin.zeroCells zc m).toList
theorem zs_len (m : Nat) : (zs m).length = m * 7 := by
  unfold zs
  rw [Array.length_toList, size_zeroCells]
  rfl
theorem zs_one (m : Nat) : ∀ u ∈ zs m, u.oneCell' = true := by
  intro u hu
  have key : ∀ r, r < 7 → (zc[r]!).oneCell' = true := by decide
  simp only [zs, Builtin.zeroCells, Array.toList_map, List.mem_map] at hu
  obtain ⟨i, _, rfl⟩ := hu
  exact key _ (Nat.mod_lt _ (by decide))

/-- clear, of some tokens. -/
theorem run_clear (w : World) (ty : TypeId) (b o m c : Nat) (hm : 0 < m)
    (hc : ∀ j, j < m * 7 → (w.cell? ⟨b, o + j, none⟩).isSome = true) (hf : ∀ j, j < m * 7 → w.frozen? ⟨b, o + j, none⟩ = false) :
    (Builtin.clear_ #[22] ty #[.slice (some ⟨b, o, none⟩) m c]).run Try.prog w = .ok (.tuple #[]) (w.setCells b o (zs m)) := by
  have hv : ∀ w, (zeroValue 27).run Try.prog w = .ok (.agg zc) w := fun w => by kernel_rfl
  have hst := run_storeCells_cells (P := Try.prog) b o (zs m) 0 w (by rw [zs_len]; simpa using hc) (by rw [zs_len]; simpa using hf) (zs_one m)
  simp only [Nat.add_zero] at hst
  have hzc : (Builtin.zeroCells (Value.agg zc).cells m).toList = zs m := rfl
  obtain ⟨k, rfl⟩ : ∃ k, m = k + 1 := ⟨m - 1, by omega⟩
  simp [Builtin.clear_, run_underlying Try.underlying22, hv, hzc, hst]

theorem wpList_clear {w w' : World} {ops : Array Oper} {rest : List Oper} {o : Oper} {a : Act} {Q : Exit → Act → World → Prop} (hg : o.guard = none) (x : Operand)
    (hop : o.op = Op.call { callee := Callee.builtin Builtin.clear, args := #[x], argTypes := #[22] }) (ad : Addr) (n c : Nat) (hx : a.eval x = .slice (some ad) n c)
    (hrun : ∀ ty, (Builtin.clear_ #[22] ty #[.slice (some ad) n c]).run Try.prog w = .ok (.tuple #[]) w') (h : wpList Try.prog ops Q rest (a.put o.dst (.tuple #[])) w') : wpList Try.prog ops Q (o :: rest) a w := by
  refine wpList_plain hg fun K hK' => ?_
  unfold Oper.wp
  simp [execOp, hop, resolve, invoke, builtin, hx, hrun, Result.andThen]
  exact hK' _ _ h

/-- One token put over another one. -/
theorem take_splice (cur : Array Value) (ys : List Kt) (i cap : Nat) (x : Kt) (hs : cur.size = cap * 7) (hi : i < ys.length) (hcap : ys.length ≤ cap) (ht : cur.toList.take (ys.length * 7) = kts ys) :
    (splice cur (i * 7) x.cells).toList.take (ys.length * 7) = kts (ys.set i x) := by
  have hl : cur.toList.length = cap * 7 := by rw [Array.length_toList, hs]
  rw [← kts_set ys i x hi, ← ht]
  simp only [splice, cells_len, List.take_append, List.length_take, List.length_append, hl]
  rw [List.take_take, List.drop_take, Nat.min_eq_right (by omega : i * 7 ≤ ys.length * 7), Nat.min_eq_left (by omega : i * 7 ≤ cap * 7), List.take_take, Nat.min_eq_left (by omega : i * 7 ≤ ys.length * 7),
    List.take_of_length_le (show x.cells.length ≤ ys.length * 7 - i * 7 by rw [cells_len]; omega)]
/-- Zeros behind the first ones. -/
theorem take_splice_low (cur : Array Value) (i : Nat) (vs : List Value) (h : i * 7 + vs.length ≤ cur.size) : (splice cur (i * 7) vs).toList.take (i * 7) = cur.toList.take (i * 7) := by
  have hl : i * 7 ≤ cur.toList.length := by rw [Array.length_toList]; omega
  simp only [splice]
  rw [List.take_append_of_le_length (by simp only [List.length_append, List.length_take]; omega), List.take_append_of_le_length (by simp only [List.length_take]; omega), List.take_take, Nat.min_self]

def keptOf (p : Kt → Bool) (l : List Kt) : List Kt := l.filter fun x => !p x
theorem kept_none (p : Kt → Bool) (l : List Kt) (h : ∀ k, (h : k < l.length) → p l[k] = false) : keptOf p l = l := by
  unfold keptOf
  rw [List.filter_eq_self]
  intro x hx
  obtain ⟨i, hi, rfl⟩ := List.getElem_of_mem hx
  rw [h i hi]
  rfl
theorem kept_snoc (p : Kt → Bool) (l : List Kt) (j : Nat) (h : j < l.length) : keptOf p (l.take (j + 1)) = keptOf p (l.take j) ++ if p l[j] = true then [] else [l[j]] := by
  unfold keptOf
  rw [List.take_succ_eq_append_getElem h, List.filter_append]
  cases hp : p l[j] <;> simp [hp]
theorem kept_first (p : Kt → Bool) (l : List Kt) (k : Nat) (h : k < l.length) (hp : p l[k] = true) (hb : ∀ j, (hj : j < k) → p (l[j]'(Nat.lt_trans hj h)) = false) : keptOf p (l.take (k + 1)) = l.take k := by
  rw [kept_snoc p l k h, if_pos hp, List.append_nil]
  refine kept_none p _ fun i hi => ?_
  rw [List.length_take] at hi
  rw [List.getElem_take]
  exact hb i (by omega)
theorem kept_le (p : Kt → Bool) (l : List Kt) : (keptOf p l).length ≤ l.length := List.length_filter_le _ _

/-- What lies while it deletes: the first i are those kept of the first j. -/
structure Half (w0 : World) (g cap : Nat) (p : Kt → Bool) (l : List Kt) (i j : Nat) (wr : World) : Prop where
  lt : i < j
  le : j ≤ l.length
  row : ∃ ys cur, ys.length = l.length ∧ Blk wr g 27 cur ∧ cur.size = cap * 7 ∧ cur.toList.take (l.length * 7) = kts ys ∧ ys.take i = keptOf p (l.take j) ∧ ∀ t, j ≤ t → ys[t]? = l[t]?
  only : Only (fun k => k = g) w0 wr

section
variable {w0 wr w' : World} {g cap : Nat} {p : Kt → Bool} {l : List Kt} {i j : Nat}
theorem Half.lt_g (h : Half w0 g cap p l i j wr) : g < wr.heap.size := by
  obtain ⟨ys, cur, _, hb, _⟩ := h.row
  exact hb.lt
theorem Half.below (h : Half w0 g cap p l i j wr) (hb : Below wr.heap.size wr w') : Half w0 g cap p l i j w' := by
  obtain ⟨ys, cur, h1, h2, h3⟩ := h.row
  exact ⟨h.lt, h.le, ⟨ys, cur, h1, (hb.block g h2.lt).trans h2, h3⟩, h.only.trans (Only.of_below hb)⟩
theorem Half.kat (h : Half w0 g cap p l i j wr) (hj : j < l.length) : KAt wr g (j * 7) l[j] := by
  obtain ⟨ys, cur, h1, h2, h3, h4, h5, h6⟩ := h.row
  refine kat_of fun t u hu => ?_
  have ht : t < 7 := (List.getElem?_eq_some_iff.1 hu).1
  have hjy : j < ys.length := by omega
  have e : ys[j]'hjy = l[j] := by
    have := h6 j (Nat.le_refl _)
    rw [List.getElem?_eq_getElem hjy, List.getElem?_eq_getElem hj] at this
    exact Option.some.inj this
  have hk := kts_at ys j hjy t ht
  rw [e, hu, ← h4, List.getElem?_take] at hk
  split at hk
  · rw [h2.cell, ← hk]; simp
  · cases hk
theorem Half.has (h : Half w0 g cap p l i j wr) (hcap : l.length ≤ cap) (o : Nat) (ho : o < cap * 7) : (wr.cell? ⟨g, o, none⟩).isSome = true ∧ wr.frozen? ⟨g, o, none⟩ = false := by
  obtain ⟨ys, cur, h1, h2, h3, _⟩ := h.row
  exact ⟨by rw [h2.cell, Array.getElem?_eq_getElem (by omega)]; rfl, h2.frozen o⟩
theorem Half.skip (h : Half w0 g cap p l i j wr) (hj : j < l.length) (hp : p l[j] = true) : Half w0 g cap p l i (j + 1) wr := by
  obtain ⟨ys, cur, h1, h2, h3, h4, h5, h6⟩ := h.row
  exact ⟨by have := h.lt; omega, hj, ⟨ys, cur, h1, h2, h3, h4, by rw [kept_snoc p l j hj, if_pos hp, List.append_nil]; exact h5, fun t ht => h6 t (by omega)⟩, h.only⟩
theorem Half.take (h : Half w0 g cap p l i j wr) (hcap : l.length ≤ cap) (hj : j < l.length) (hp : p l[j] = false) : Half w0 g cap p l (i + 1) (j + 1) (wr.setCells g (i * 7) (l[j]).cells) := by
  obtain ⟨ys, cur, h1, h2, h3, h4, h5, h6⟩ := h.row
  have hlt := h.lt
  have hb := Blk.setCells (l[j]).cells (i * 7) wr cur h2 (by rw [cells_len]; omega)
  refine ⟨by omega, hj, ⟨ys.set i l[j], _, by rw [List.length_set]; exact h1, hb, by rw [splice_size _ _ _ (by rw [cells_len]; omega), h3], ?_, ?_, fun t ht => ?_⟩, Only.setCells (F := fun k => k = g) (.inl rfl) _ _ _ h.only⟩
  · rw [← h1]
    exact take_splice cur ys i cap _ h3 (by omega) (by omega) (by rw [h1]; exact h4)
  · rw [kept_snoc p l j hj, if_neg (by rw [hp]; decide), ← h5, List.take_succ_eq_append_getElem (by rw [List.length_set]; omega), List.getElem_set_self, List.take_set_of_le (Nat.le_refl i)]
  · rw [List.getElem?_set_ne (by omega)]
    exact h6 t (by omega)
theorem Half.done (base : Nat) (h : Half w0 g cap p l i l.length wr) (hcap : l.length ≤ cap) (hm : cap ≤ maxLen) (hbase : base ≤ g) : i ≤ l.length ∧ i = (keptOf p l).length ∧ (wr.setCells g (i * 7) (zs (l.length - i))).ownsRow base 27 7 (.slice (some ⟨g, 0, none⟩) i cap) (keptOf p l).length (kts (keptOf p l)) ∧ Only (fun k => k = g) w0 (wr.setCells g (i * 7) (zs (l.length - i))) := by
  obtain ⟨ys, cur, h1, h2, h3, h4, h5, h6⟩ := h.row
  have hlt := h.lt
  rw [List.take_of_length_le (Nat.le_refl _)] at h5
  have hi : i = (keptOf p l).length := by rw [← h5, List.length_take]; omega
  have hzl := zs_len (l.length - i)
  have hb := Blk.setCells (zs (l.length - i)) (i * 7) wr cur h2 (by rw [hzl]; omega)
  refine ⟨by omega, hi, ?_, Only.setCells (F := fun k => k = g) (.inl rfl) _ _ _ h.only⟩
  rw [← hi]
  refine ⟨by rw [kts_len, ← hi], .inr ⟨g, cap, _, rfl, hbase, hb, by omega, hm, by rw [splice_size _ _ _ (by rw [hzl]; omega), h3], ?_⟩⟩
  rw [take_splice_low cur i _ (by rw [hzl]; omega)]
  have e : cur.toList.take (i * 7) = (cur.toList.take (l.length * 7)).take (i * 7) := by rw [List.take_take, Nat.min_eq_left (by omega)]
  rw [e, h4, kts_take, h5]
end
end Go.Proofs.Ytffmhejkhimkcaa
