/- slices.Delete of one packet, in a row of the call's own. -/
import Derived.Test.YtnccgbcmencncaaN2
import Derived.Deep.Upon
import Derived.Deep.MidRow
namespace Go.Proofs.Ytnccgbcmencncaa
open Go.RowKit

/-- An array with a stretch of its elements put in anew. -/
def splice (cs : Array Value) (o : Nat) (vs : List Value) : Array Value := (cs.toList.take o ++ vs ++ cs.toList.drop (o + vs.length)).toArray

theorem splice_size (cs : Array Value) (o : Nat) (vs : List Value) (h : o + vs.length ≤ cs.size) : (splice cs o vs).size = cs.size := by
  simp only [splice, List.size_toArray, List.length_append, List.length_take, List.length_drop, Array.length_toList]
  omega

theorem splice_nil (cs : Array Value) (o : Nat) : splice cs o [] = cs := by simp [splice]

theorem splice_cons (cs : Array Value) (o : Nat) (v : Value) (vs : List Value) (h : o + 1 + vs.length ≤ cs.size) : splice (cs.setIfInBounds o v) (o + 1) vs = splice cs o (v :: vs) := by
  obtain ⟨l⟩ := cs
  simp only [splice, List.setIfInBounds_toArray, List.length_cons]
  congr 1
  have hl : o < l.length := by simp at h; omega
  rw [List.take_succ_eq_append_getElem (by simpa using hl)]
  simp only [List.getElem_set_self, List.take_set_of_le (Nat.le_refl o), List.append_assoc, List.cons_append, List.nil_append]
  rw [List.drop_set_of_lt (by omega)]
  rw [show o + 1 + vs.length = o + (vs.length + 1) by omega]

theorem Blk.setCells {t : TypeId} {g : Nat} : ∀ (vs : List Value) (o : Nat) (w : World) (cs : Array Value), Blk w g t cs → o + vs.length ≤ cs.size → Blk (w.setCells g o vs) g t (splice cs o vs)
  | [], o, w, cs, h, _ => by rw [splice_nil]; exact h
  | v :: vs, o, w, cs, h, hl => by
    simp only [List.length_cons] at hl
    have := Blk.setCells vs (o + 1) _ _ (h.set_ o v) (by simp; omega)
    rw [splice_cons _ _ _ _ (by omega)] at this
    exact this

theorem Only.setCells {F : Nat → Prop} {a : World} {g : Nat} (hg : F g ∨ a.heap.size ≤ g) : ∀ (vs : List Value) (o : Nat) (w : World), Only F a w → Only F a (w.setCells g o vs)
  | [], _, _, h => h
  | v :: vs, o, _, h => Only.setCells hg vs (o + 1) _ (h.setCell (p := ⟨g, o, none⟩) hg v)

/-- What a row of packets is, its spare told. -/
theorem own_cur {w : World} {base g cap : Nat} {l : List Pk} (hown : w.ownsRow base 28 3 (.slice (some ⟨g, 0, none⟩) l.length cap) l.length (pks l)) :
    ∃ cur, base ≤ g ∧ Blk w g 28 cur ∧ l.length ≤ cap ∧ cap ≤ maxLen ∧ cur.size = cap * 3 ∧ cur.toList.take (l.length * 3) = pks l := by
  rcases hown.2 with ⟨h, _⟩ | ⟨g', cap', cur, hv, r1, r2, r3, r4, r5, r6⟩
  · cases h
  · injection hv with h1 h2 h3
    injection h1 with h1
    injection h1 with h1
    subst h1; subst h3
    exact ⟨cur, r1, r2, r3, r4, r5, r6⟩

theorem pks_take (l : List Pk) (n : Nat) : (pks l).take (n * 3) = pks (l.take n) := by
  induction l generalizing n with
  | nil => simp [pks]
  | cons p l ih =>
    match n with
    | 0 => simp [pks]
    | n + 1 =>
      have e : (n + 1) * 3 = n * 3 + 3 := by omega
      rw [e]
      have := ih n
      simp only [pks, List.flatMap_cons, Pk.cells, List.take_succ_cons, List.cons_append, List.nil_append] at this ⊢
      rw [this]
theorem pks_drop (l : List Pk) (n : Nat) : (pks l).drop (n * 3) = pks (l.drop n) := by
  induction l generalizing n with
  | nil => simp [pks]
  | cons p l ih =>
    match n with
    | 0 => simp [pks]
    | n + 1 =>
      have e : (n + 1) * 3 = n * 3 + 3 := by omega
      rw [e]
      have := ih n
      simp only [pks, List.flatMap_cons, Pk.cells, List.drop_succ_cons, List.cons_append, List.nil_append] at this ⊢
      rw [this]

/-- The row behind the deletion of the i-th packet. -/
theorem cur_deleted (cur : Array Value) (l : List Pk) (i cap : Nat) (z : List Value) (hz : z.length = 3) (hi : i < l.length) (hl : l.length ≤ cap) (hs : cur.size = cap * 3) (ht : cur.toList.take (l.length * 3) = pks l) :
    (splice (splice cur (i * 3) (pks (l.drop (i + 1)))) ((l.length - 1) * 3) z).toList.take ((l.length - 1) * 3) = pks (l.eraseIdx i) := by
  have hd : (pks (l.drop (i + 1))).length = (l.length - (i + 1)) * 3 := by rw [pks_len, List.length_drop]
  have hcl : cur.toList.length = cap * 3 := by rw [Array.length_toList, hs]
  have h1 : cur.toList.take (i * 3) = pks (l.take i) := by
    rw [← pks_take, ← ht, List.take_take]
    congr 1
    omega
  rw [List.eraseIdx_eq_take_drop_succ, pks_append]
  simp only [splice]
  rw [List.take_append_of_le_length (by simp only [List.length_append, List.length_take, List.length_drop, hd, hcl]; omega)]
  rw [List.take_append_of_le_length (by simp only [List.length_append, List.length_take, List.length_drop, hd, hcl]; omega)]
  rw [List.take_take, Nat.min_self]
  rw [List.take_append_of_le_length (by simp only [List.length_append, List.length_take, hd, hcl]; omega)]
  rw [List.take_of_length_le (by simp only [List.length_append, List.length_take, hd, hcl]; omega), h1]

theorem zero3 : (Try.prog.info? 28).map (fun i => i.zero) = some (some (.agg #[.int .i64 0, .int .i64 0, .string ⟨#[]⟩])) := by kernel_rfl

/-- clear, of one packet. -/
theorem run_clear_one (w : World) (ty : TypeId) (b o c : Nat)
    (hc : ∀ j, j < 3 → (w.cell? ⟨b, o + j, none⟩).isSome = true) (hf : ∀ j, j < 3 → w.frozen? ⟨b, o + j, none⟩ = false) :
    (Builtin.clear_ #[22] ty #[.slice (some ⟨b, o, none⟩) 1 c]).run Try.prog w = .ok (.tuple #[]) (w.setCells b o [.int .i64 0, .int .i64 0, .string ⟨#[]⟩]) := by
  have hv : ∀ w, (zeroValue 28).run Try.prog w = .ok (.agg #[.int .i64 0, .int .i64 0, .string ⟨#[]⟩]) w := fun w => by kernel_rfl
  have hst := run_storeCells_cells (P := Try.prog) b o [.int .i64 0, .int .i64 0, .string ⟨#[]⟩] 0 w (by simpa using hc) (by simpa using hf) (by simp [Value.oneCell'])
  simp only [Nat.add_zero] at hst
  have hzc : (Builtin.zeroCells (Value.agg #[.int .i64 0, .int .i64 0, .string ⟨#[]⟩]).cells 1).toList = [.int .i64 0, .int .i64 0, .string ⟨#[]⟩] := by kernel_rfl
  simp [Builtin.clear_, run_underlying Try.underlying22, hv, hzc, hst]

theorem wpList_clear_one {w w' : World} {ops : Array Oper} {rest : List Oper} {o : Oper} {a : Act} {Q : Exit → Act → World → Prop} (hg : o.guard = none) (x : Operand)
    (hop : o.op = Op.call { callee := Callee.builtin Builtin.clear, args := #[x], argTypes := #[22] }) (ad : Addr) (n c : Nat) (hx : a.eval x = .slice (some ad) n c) (hn : n = 1)
    (hrun : ∀ ty, (Builtin.clear_ #[22] ty #[.slice (some ad) 1 c]).run Try.prog w = .ok (.tuple #[]) w') (h : wpList Try.prog ops Q rest (a.put o.dst (.tuple #[])) w') : wpList Try.prog ops Q (o :: rest) a w := by
  subst hn
  refine wpList_plain hg fun K hK' => ?_
  unfold Oper.wp
  simp [execOp, hop, resolve, invoke, builtin, hx, hrun, Result.andThen]
  exact hK' _ _ h

set_option maxHeartbeats 1000000 in
theorem delete_walk (g cap i n : Nat) (news : List Value) (cur : Array Value) (w : World) (hi : i < n) (hl : n ≤ cap) (hm : cap ≤ 9223372036854775807) (hs : cur.size = cap * 3) (hb : Blk w g 28 cur)
    (hlen : news.length = (n - (i + 1)) * 3) (h1 : ∀ u ∈ news, u.oneCell' = true) (hn : ∀ j u, news[j]? = some u → w.cell? ⟨g, (i + 1) * 3 + j, none⟩ = some u) :
    Calls Try.prog 22 #[.slice (some ⟨g, 0, none⟩) n cap, .int .i64 i, .int .i64 (i + 1)] w fun e w' => e = .returned (.slice (some ⟨g, 0, none⟩) (n - 1) cap) ∧ w' = (w.drew.setCells g (i * 3) news).setCells g ((n - 1) * 3) [.int .i64 0, .int .i64 0, .string ⟨#[]⟩] := by
  obtain ⟨i0, hi0, hz0, hz1, hz2⟩ := info_parts Try.info28
  have hne : ((i : Int) == (i : Int) + 1) = false := by simp; omega
  have hq0 : (0 : Int) ≤ (i : Int) := by omega
  have hq1 : (i : Int) + 1 ≤ (n : Int) := by omega
  have hq2 : (0 : Int) ≤ (i : Int) + 1 := by omega
  have hq3 : ((i : Int) + 1).toNat = i + 1 := by omega
  obtain ⟨A, hA, hnews⟩ : ∃ A : Addr, (if cap = i + 1 then some (⟨g, 0, none⟩ : Addr) else some ⟨g, (i + 1) * 3, none⟩) = some A ∧ Hid (∀ j u, news[j]? = some u → w.drew.cell? (A.add j) = some u) := by
    by_cases h : cap = i + 1
    · refine ⟨⟨g, 0, none⟩, by simp [h], fun j u hu => ?_⟩
      have h0 : news.length = 0 := by rw [hlen]; omega
      rw [List.length_eq_zero_iff.1 h0] at hu
      simp at hu
    · refine ⟨⟨g, (i + 1) * 3, none⟩, by simp [h], fun j u hu => ?_⟩
      rw [Addr.add_lit]
      exact hn j u hu
  have s1 : Hid (news.length = (n - (i + 1)) * 3) := hlen
  have s2 : Hid (∀ u ∈ news, u.oneCell' = true) := h1
  have hcell : ∀ k, k < cap * 3 → (w.cell? ⟨g, k, none⟩).isSome = true ∧ w.frozen? ⟨g, k, none⟩ = false := fun k hk => ⟨by rw [hb.cell, Array.getElem?_eq_getElem (by omega)]; rfl, hb.frozen k⟩
  have s3 : Hid (∀ j, j < news.length → (w.drew.cell? ⟨g, 0 + i * 3 + j, none⟩).isSome = true ∧ w.drew.frozen? ⟨g, 0 + i * 3 + j, none⟩ = false) := fun j hj => by
    have := hcell (0 + i * 3 + j) (by omega)
    exact this
  have hcl : Hid (∀ ty, _) := fun ty => run_clear_one (w.drew.setCells g (i * 3) news) ty g ((n - 1) * 3) (cap - (n - 1)) (fun j hj => World.isSome_setCells g _ _ _ _ (hcell _ (by omega)).1) (fun j hj => (World.frozen?_setCells g _ _ _ _).trans (hcell _ (by omega)).2)
  have hcap : ¬ cap = n - 1 := by omega
  have hic : i ≤ cap := by omega
  have e1 : i + (n - (i + 1)) = n - 1 := by omega
  have e2 : n - (n - 1) = 1 := by omega
  have HE := Lib.hid e1
  have HE2 := Lib.hid e2
  clear hcell hn h1 hlen hb e1 e2
  go_enter Try.func22, Try.ntmps22
  go_wp2_with fail
  go_region_law (refine step_append_room rfl (.tmp 22) (.tmp 25) 22 rfl 28 i0 3 Try.underlying22 hi0 hz1 g 0 i cap (by simp [Act.eval, Act.put]) A (n - (i + 1)) (cap - (i + 1)) news (by simp [Act.eval, Act.put]) s1.out hnews.out s2.out (by omega) s3.out ?_)
  rw [HE.out]
  go_wp2_with (with_reducible refine wpList_clear_one rfl (.tmp 31) rfl ⟨g, (n - 1) * 3, none⟩ _ _ rfl HE2.out hcl.out ?_)
  go_ret
  exact ⟨rfl, rfl⟩

theorem delete_any (base g cap i : Nat) (l : List Pk) (w : World) (h : w.ownsRow base 28 3 (.slice (some ⟨g, 0, none⟩) l.length cap) l.length (pks l)) (hi : i < l.length) :
    Calls Try.prog 22 #[.slice (some ⟨g, 0, none⟩) l.length cap, .int .i64 i, .int .i64 (i + 1)] w fun e w' => e = .returned (.slice (some ⟨g, 0, none⟩) (l.length - 1) cap) ∧
      w'.ownsRow base 28 3 (.slice (some ⟨g, 0, none⟩) (l.length - 1) cap) (l.length - 1) (pks (l.eraseIdx i)) ∧ Only (fun k => k = g) w w' := by
  obtain ⟨cur, hbase, hb, hl, hm, hs, ht⟩ := own_cur h
  have hlen : (pks (l.drop (i + 1))).length = (l.length - (i + 1)) * 3 := by rw [pks_len, List.length_drop]
  have hcell : ∀ j u, (pks (l.drop (i + 1)))[j]? = some u → w.cell? ⟨g, (i + 1) * 3 + j, none⟩ = some u := by
    intro j u hu
    rw [← pks_drop, List.getElem?_drop, ← ht, List.getElem?_take] at hu
    split at hu
    · rw [hb.cell, ← hu]; simp
    · cases hu
  refine (delete_walk g cap i l.length _ cur w hi hl (by unfold maxLen at hm; omega) hs hb hlen (pks_one_cell _) hcell).mono fun e w' ⟨he, hw⟩ => ⟨he, ?_, ?_⟩
  · subst hw
    have b1 := Blk.setCells (pks (l.drop (i + 1))) (i * 3) w.drew cur hb (by omega)
    have b2 := Blk.setCells [.int .i64 0, .int .i64 0, .string ⟨#[]⟩] ((l.length - 1) * 3) _ _ b1 (by rw [splice_size _ _ _ (by omega)]; simp; omega)
    refine ⟨?_, .inr ⟨g, cap, _, rfl, hbase, b2, by omega, hm, ?_, ?_⟩⟩
    · rw [pks_len, List.length_eraseIdx_of_lt hi]
    · rw [splice_size _ _ _ (by rw [splice_size _ _ _ (by omega)]; simp; omega), splice_size _ _ _ (by omega), hs]
    · exact cur_deleted cur l i cap _ rfl hi hl hs ht
  · subst hw
    exact Only.setCells (F := fun k => k = g) (g := g) (.inl rfl) _ _ _ (Only.setCells (F := fun k => k = g) (g := g) (.inl rfl) _ _ _ (Only.refl _ _).drew)
end Go.Proofs.Ytnccgbcmencncaa
