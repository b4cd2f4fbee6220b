/- The document's net: Put, at, Take, Copy. -/
import Derived.Test.YtnccgbcmencncaaN6
namespace Go.Proofs.Ytnccgbcmencncaa
open Go.RowKit

set_option maxHeartbeats 1000000 in
theorem refPut_room (base g : Nat) (v : Value) (l : List Pk) (p : Pk) (w : World) (h : NetAt w 35 base g v l) (hl : l.length < 60) (hb : base ≤ w.heap.size) :
    Calls Try.prog 17 #[.pointer (some ⟨g, 0, none⟩), p.agg] w (PutPost 35 base g v (l ++ [p]) w) := by
  obtain ⟨i0, hi0, hz0, hz1, hz2⟩ := info_parts Try.info28
  have hown := h.own
  obtain ⟨A, c, rfl⟩ : ∃ A c, v = .slice A l.length c := by
    rcases hown.2 with ⟨rfl, h0⟩ | ⟨g, cap, cur, rfl, _⟩
    · rw [h0]; exact ⟨_, _, rfl⟩
    · exact ⟨_, _, rfl⟩
  obtain ⟨src, dst, data⟩ := p
  have hg := h.blk.cell 0
  simp only [List.getElem?_toArray, List.getElem?_cons_zero] at hg
  have hgf := h.blk.frozen 0
  have hlt := h.blk.lt
  have hn : ((l.length : Int) == 60) = false := by simp only [beq_eq_false_iff_ne, ne_eq]; omega
  have hne := own_blk_ne hown h.blk (by decide)
  have H := Lib.hid h
  have HO := Lib.hid hown
  have HN := Lib.hid hne
  clear h hown hne
  show Calls Try.prog 17 #[.pointer (some ⟨g, 0, none⟩), .agg #[.int .i64 src, .int .i64 dst, .string data]] w _
  go_enter Try.func17, Try.ntmps17
  go_wp2_with fail
  go_region_law ((refine step_append_lies _ (by rfl) (.tmp 15) (.tmp 17) 22 (by rfl) base 28 i0 _ 3 32 Try.underlying22 hi0 hz0 hz1 hz2 rfl (by omega) (.slice A l.length c) l.length (pks l) (by simp [Act.eval]) ((HO.out.alloc _).alloc _) ⟨w.heap.size + 1, 0, none⟩ 1 1 [.int .i64 src, .int .i64 dst, .string data] (by simp [Act.eval]) (by rfl) (World.news_of_block (cs := #[.int .i64 src, .int .i64 dst, .string data]) (t := 28) (fr := (0, 0)) (heap2 _ _ _)) (by simp [Value.oneCell']) (by omega) (by unfold maxLen; omega) (by omega) (by simp; omega) (w.heap.size + 2) (size2 _ _ _) ?_; intro gg cap w1 hown1 hgrow hat hlt1; have c1 : w1.cell? ⟨g, 0, none⟩ = some (.slice A l.length c) := (by rw [hgrow.cell_far _ (by simp; omega) (Ne.symm HN.out)]; go_simp); have c2 : w1.frozen? ⟨g, 0, none⟩ = false := (by rw [hgrow.frozen_far _ (by simp; omega) (Ne.symm HN.out)]; go_simp)))
  all_goals
    go_wp2
    go_ret
    exact put_done (p := ⟨src, dst, data⟩) H.out (by decide) hown1 hgrow hat

set_option maxHeartbeats 1000000 in
theorem refPut_full (base g : Nat) (v : Value) (l : List Pk) (p : Pk) (w : World) (h : NetAt w 35 base g v l) (hl : 60 = l.length) :
    Calls Try.prog 17 #[.pointer (some ⟨g, 0, none⟩), p.agg] w fun e w' => e = .returned (.int .i64 6) ∧ Below w.heap.size w w' := by
  have hown := h.own
  obtain ⟨A, c, rfl⟩ : ∃ A c, v = .slice A l.length c := by
    rcases hown.2 with ⟨rfl, h0⟩ | ⟨g, cap, cur, rfl, _⟩
    · rw [h0]; exact ⟨_, _, rfl⟩
    · exact ⟨_, _, rfl⟩
  obtain ⟨src, dst, data⟩ := p
  have hg := h.blk.cell 0
  simp only [List.getElem?_toArray, List.getElem?_cons_zero] at hg
  have hlt := h.blk.lt
  have hn : ((l.length : Int) == 60) = true := by simp only [beq_iff_eq]; omega
  clear hl
  clear h hown
  show Calls Try.prog 17 #[.pointer (some ⟨g, 0, none⟩), .agg #[.int .i64 src, .int .i64 dst, .string data]] w _
  go_enter Try.func17, Try.ntmps17
  go_wp2_with fail
  go_ret
  exact ⟨rfl, (Below.refl _ _).alloc (Nat.le_refl _) _⟩


theorem refPut_any (base g : Nat) (v : Value) (l : List Pk) (p : Pk) (w : World) (h : NetAt w 35 base g v l) (hb : base ≤ w.heap.size) (hl60 : l.length ≤ 60) :
    Calls Try.prog 17 #[.pointer (some ⟨g, 0, none⟩), p.agg] w (PutAny 35 base g v l p w) := by
  by_cases hl : l.length < 60
  · refine (refPut_room base g v l p w h hl hb).mono fun e w' ⟨he, h2⟩ => ?_
    unfold PutAny
    rw [putCode_lt hl, putList_lt hl]
    exact ⟨he, h2⟩
  · refine (refPut_full base g v l p w h (by omega)).mono fun e w' ⟨he, h2⟩ => ?_
    unfold PutAny
    rw [putCode_ge hl, putList_ge hl]
    have ho : Only (foot g v) w w' := Only.of_below h2
    refine ⟨he, v, h.only (F := fun _ => False) (Only.of_below h2) (fun _ _ x => x), ho, fun k hk => .inl hk⟩

set_option maxHeartbeats 1000000 in
theorem at_none (base g : Nat) (v : Value) (k : Int) (w : World) (h : NetAt w 35 base g v []) :
    Calls Try.prog 24 #[.pointer (some ⟨g, 0, none⟩), .int .i64 k] w fun e w' => e = .returned (.int .i64 (-1)) ∧ w = w' := by
  obtain ⟨A, c, rfl⟩ : ∃ A c, v = .slice A 0 c := by
    rcases h.own.2 with ⟨rfl, h0⟩ | ⟨g, cap, cur, rfl, _⟩
    · exact ⟨_, _, rfl⟩
    · exact ⟨_, _, rfl⟩
  have hg := h.blk.cell 0
  simp only [List.getElem?_toArray, List.getElem?_cons_zero] at hg
  clear h
  go_enter Try.func24, Try.ntmps24
  go_wp2
  go_ret
  exact ⟨rfl, rfl⟩

set_option maxHeartbeats 1000000 in
theorem at_some (base g : Nat) (v : Value) (k : Int) (l : List Pk) (w : World) (h : NetAt w 35 base g v l) (hl : 0 < l.length) (hl2 : l.length ≤ 1000) (hk : I64 k) :
    Calls Try.prog 24 #[.pointer (some ⟨g, 0, none⟩), .int .i64 k] w fun e w' => e = .returned (.int .i64 (place k l.length)) ∧ w = w' := by
  obtain ⟨A, c, rfl⟩ : ∃ A c, v = .slice A l.length c := by
    rcases h.own.2 with ⟨rfl, h0⟩ | ⟨g, cap, cur, rfl, _⟩
    · rw [h0]; exact ⟨_, _, rfl⟩
    · exact ⟨_, _, rfl⟩
  have hg := h.blk.cell 0
  simp only [List.getElem?_toArray, List.getElem?_cons_zero] at hg
  have hne : ((l.length : Int) == 0) = false := by simp only [beq_eq_false_iff_ne, ne_eq]; omega
  have hp := place_int k l.length hl
  unfold I64 at hk
  clear h
  by_cases h0 : k < 0
  · have e0 : up k = -(k + 1) := by unfold up; omega
    rw [e0] at hp
    have hp' : -((k + 1).tmod (l.length : Int)) = ((place k l.length : Nat) : Int) := by rw [← hp, ← Int.neg_tmod, Int.tmod_eq_emod_of_nonneg (by omega)]
    clear e0 hp
    go_enter Try.func24, Try.ntmps24
    go_wp2_with fail
    go_ret
    exact ⟨rfl, rfl⟩
  · have e0 : up k = k := by unfold up; omega
    rw [e0] at hp
    clear e0
    go_enter Try.func24, Try.ntmps24
    go_wp2_with fail
    go_ret
    exact ⟨rfl, rfl⟩

set_option maxHeartbeats 1000000 in
theorem refTake_none (base g : Nat) (v : Value) (k : Int) (w : World) (h : NetAt w 35 base g v []) :
    Calls Try.prog 18 #[.pointer (some ⟨g, 0, none⟩), .int .i64 k] w fun e w' => e = .returned (.tuple #[.agg #[.int .i64 0, .int .i64 0, .string ⟨#[]⟩], .bool false]) ∧ Below w.heap.size w w' := by
  have H2 := Lib.hid (fun o1 => h.alloc o1)
  clear h
  go_enter Try.func18, Try.ntmps18
  go_wp2_with (go_at_call 24; refine (at_none base g v k _ (H2.out _)).mono ?_; rintro e w' ⟨rfl, rfl⟩)
  refine bodyPost_ret (v := .tuple #[.agg #[.int .i64 0, .int .i64 0, .string ⟨#[]⟩], .bool false]) (by simp [results, Try.results18, go_sem]) rfl ⟨rfl, ?_⟩
  exact (Below.refl _ _).alloc (Nat.le_refl _) _

theorem cells_take {w : World} {r n : Nat} {cur : Array Value} {l : List Pk} (hb : Blk w r 28 cur) (ht : cur.toList.take (n * 3) = pks l) (i : Nat) :
    ∀ j u, (pks (l.take i))[j]? = some u → w.cell? ((⟨r, 0, none⟩ : Addr).add j) = some u := by
  intro j u hu
  rw [← pks_take, List.getElem?_take] at hu
  split at hu
  · rw [← ht, List.getElem?_take] at hu
    split at hu
    · rw [Addr.add_lit, Nat.zero_add, hb.cell, ← hu]; simp
    · cases hu
  · cases hu
theorem cells_drop {w : World} {r n : Nat} {cur : Array Value} {l : List Pk} (hb : Blk w r 28 cur) (ht : cur.toList.take (n * 3) = pks l) (i : Nat) :
    ∀ j u, (pks (l.drop i))[j]? = some u → w.cell? ((⟨r, i * 3, none⟩ : Addr).add j) = some u := by
  intro j u hu
  rw [← pks_drop, List.getElem?_drop, ← ht, List.getElem?_take] at hu
  split at hu
  · rw [Addr.add_lit, hb.cell, ← hu]; simp
  · cases hu
theorem own_mono {w : World} {b b' : Nat} {e size n : Nat} {v : Value} {xs : List Value} (h : w.ownsRow b e size v n xs) (hb : b' ≤ b) : w.ownsRow b' e size v n xs := by
  refine ⟨h.1, ?_⟩
  rcases h.2 with hn | ⟨g, cap, cur, rfl, hg, rest⟩
  · exact .inl hn
  · exact .inr ⟨g, cap, cur, rfl, by omega, rest⟩

set_option maxHeartbeats 1000000 in
theorem refTake_some (base g : Nat) (v : Value) (k : Int) (l : List Pk) (p : Pk) (w : World) (h : NetAt w 35 base g v l) (hl : 0 < l.length) (hl2 : l.length ≤ 60) (hk : I64 k) (hp : l[place k l.length]? = some p) (hbw : base ≤ w.heap.size) :
    Calls Try.prog 18 #[.pointer (some ⟨g, 0, none⟩), .int .i64 k] w (TakePost 35 base g v (l.eraseIdx (place k l.length)) p w) := by
  have H2 := Lib.hid (fun o1 => h.alloc o1)
  obtain ⟨r, cap, rfl⟩ := netVal h hl
  have hlt := place_lt k l.length hl
  obtain ⟨x, y, zz⟩ := cellsAt h.own _ hlt
  rw [(List.getElem?_eq_some_iff.1 hp).2] at x y zz
  have hg := h.blk.cell 0
  simp only [List.getElem?_toArray, List.getElem?_cons_zero] at hg
  have hgl := h.blk.lt
  have hrl := (h.own.lt r rfl).2
  have H := Lib.hid h
  have HP := Lib.hid hp
  obtain ⟨i0, hi0, hz0, hz1, hz2⟩ := info_parts Try.info28
  obtain ⟨cur, _, hcb, hlc, hcm, hcs, hct⟩ := own_cur h.own
  have HC := Lib.hid (And.intro hcb (And.intro hcm (And.intro hcs hct)))
  have q0 : (0 : Int) ≤ ((place k l.length : Nat) : Int) := by omega
  have q1 : ((place k l.length : Nat) : Int) < (l.length : Int) := by omega
  have q2 : place k l.length ≤ cap := by omega
  have HA := Lib.hid (fun wx hx => at_some base g (.slice (some ⟨r, 0, none⟩) l.length cap) k l wx hx hl (by omega) hk)
  clear h hp hcb hcm hcs hct
  generalize place k l.length = i at *
  have hA0 : ∃ A : Addr, (if cap = i + 1 then some (⟨r, 0, none⟩ : Addr) else some ⟨r, (i + 1) * 3, none⟩) = some A ∧ Hid (∀ wx, Blk wx r 28 cur → ∀ j u, (pks (l.drop (i + 1)))[j]? = some u → wx.cell? (A.add j) = some u) := by
    by_cases h : cap = i + 1
    · refine ⟨⟨r, 0, none⟩, by simp [h], fun wx hb j u hu => ?_⟩
      have h0 : l.drop (i + 1) = [] := List.drop_of_length_le (by omega)
      rw [h0] at hu
      simp [pks] at hu
    · exact ⟨⟨r, (i + 1) * 3, none⟩, by simp [h], fun wx hb => cells_drop hb HC.out.2.2.2 _⟩
  obtain ⟨A, hA, hnews⟩ := hA0
  have q3 : (i : Int) + 1 ≤ (l.length : Int) := by omega
  have q4 : (0 : Int) ≤ (i : Int) + 1 := by omega
  have q5 : ((i : Int) + 1).toNat = i + 1 := by omega
  go_enter Try.func18, Try.ntmps18
  go_wp2_with (first | (go_at_call 24; refine (HA.out _ (H2.out _)).mono ?_; rintro e w' ⟨rfl, rfl⟩) | (at_builtin; refine wpList_append_own _ rfl (.tmp 22) (.tmp 28) 22 rfl (w.heap.size + 2) 28 i0 _ 3 32 Try.underlying22 hi0 hz0 hz1 hz2 rfl (by omega) _ 0 [] rfl (World.ownsRow_nil _ _ _ _) ⟨r, 0, none⟩ i cap (pks (l.take i)) rfl ?c0 ?c1 ?c2 ?c3 ?c4 ?c5 ?_))
  case c0 => rw [pks_len, List.length_take]; omega
  case c1 => exact cells_take ((HC.out.1.alloc _).alloc _) HC.out.2.2.2 i
  case c2 => exact pks_one_cell _
  case c3 => unfold maxLen; omega
  case c4 => omega
  case c5 => simp
  intro v1 w1 hown1 hgrow1 _
  generalize ho1 : Obj.cells #[.int .i64 0, .int .i64 0, .string ⟨#[]⟩] 28 = o1 at hgrow1
  generalize ho2 : Obj.cells #[.int .i64 p.src, .int .i64 p.dst, .string p.data] 28 = o2 at hgrow1
  have G1 := Lib.hid hgrow1
  have bel1 : Below w.heap.size w w1 := (((Below.refl _ _).alloc (Nat.le_refl _) o1).alloc (by simp) o2).grown hgrow1 (by simp; omega) (by simp [Value.ownBlock])
  have c1 : w1.cell? ⟨g, 0, none⟩ = some (.slice (some ⟨r, 0, none⟩) l.length cap) := (bel1.cell (p := ⟨g, 0, none⟩) hgl).trans hg
  have d1 : Blk w1 r 28 cur := (bel1.block r hrl).trans HC.out.1
  have d2 : Blk w1 (w.heap.size + 1) 28 #[.int .i64 p.src, .int .i64 p.dst, .string p.data] := by
    refine Blk.grown (w := (w.alloc o1).alloc o2) ?_ hgrow1 (by simp [Value.ownBlock])
    rw [← ho2]
    have b := Blk.new (w.alloc o1) 28 #[.int .i64 p.src, .int .i64 p.dst, .string p.data]
    have e1 : (w.alloc o1).heap.size = w.heap.size + 1 := by simp
    rw [e1] at b
    exact b
  have d3 : Blk w1 w.heap.size 28 #[.int .i64 0, .int .i64 0, .string ⟨#[]⟩] := by
    refine Blk.grown (w := (w.alloc o1).alloc o2) ?_ hgrow1 (by simp [Value.ownBlock])
    rw [← ho1]
    exact (Blk.new w 28 _).alloc _
  have n1 : ∀ b, v1.ownBlock = some b → w.heap.size + 2 ≤ b := fun b hb => (hown1.lt b hb).1
  have hs1 : w.heap.size + 2 ≤ w1.heap.size := by have := hgrow1.size; simp at this; omega
  have e1 : i + (l.length - (i + 1)) = l.length - 1 := by omega
  have B1 := Lib.hid bel1
  have O1 := Lib.hid hown1
  have D1 := Lib.hid d1
  have D2 := Lib.hid d2
  have D3 := Lib.hid d3
  have N1 := Lib.hid n1
  have E1 := Lib.hid e1
  have S1 := Lib.hid hs1
  clear hgrow1 ho1 ho2 bel1 d1 d2 d3 n1 hown1 e1 hs1
  go_wp2_with (at_builtin; refine wpList_append_own _ rfl (.tmp 31) (.tmp 38) 22 rfl (w.heap.size + 2) 28 i0 _ 3 32 Try.underlying22 hi0 hz0 hz1 hz2 rfl (by omega) v1 i (pks (l.take i)) rfl O1.out A (l.length - (i + 1)) (cap - (i + 1)) (pks (l.drop (i + 1))) rfl ?c0 ?c1 ?c2 ?c3 ?c4 ?c5 ?_)
  case c0 => rw [pks_len, List.length_drop]
  case c1 => exact hnews.out _ D1.out
  case c2 => exact pks_one_cell _
  case c3 => unfold maxLen; omega
  case c4 => omega
  case c5 => exact S1.out
  intro v2 w2 hown2 hgrow2 _
  rw [E1.out] at hown2
  obtain ⟨A2, cap2, hv2⟩ : ∃ A2 cap2, v2 = .slice A2 (l.length - 1) cap2 := by
    rcases hown2.2 with ⟨h1, h0⟩ | ⟨g, cap, cur, h1, _⟩
    · rw [h0]; exact ⟨_, _, h1⟩
    · exact ⟨_, _, h1⟩
  subst hv2
  have K : ∀ b, b < w.heap.size + 2 → some b ≠ v1.ownBlock := fun b hb e => by have := N1.out b e.symm; omega
  have c2 : w2.cell? ⟨g, 0, none⟩ = some (.slice (some ⟨r, 0, none⟩) l.length cap) := (hgrow2.cell_far ⟨g, 0, none⟩ (by have := S1.out; show g < _; omega) (K g (by omega))).trans c1
  have f2 : w2.frozen? ⟨g, 0, none⟩ = false := (hgrow2.frozen_far ⟨g, 0, none⟩ (by have := S1.out; show g < _; omega) (K g (by omega))).trans ((B1.out.frozen (p := ⟨g, 0, none⟩) hgl).trans (H.out.blk.frozen 0))
  have g2 := D2.out.grown hgrow2 (K _ (by omega))
  have g3 := D3.out.grown hgrow2 (K _ (by omega))
  have x0 := g2.cell 0
  have x1 := g2.cell 1
  have x2 := g2.cell 2
  have y0 := g3.cell 0
  have y1 := g3.cell 1
  have y2 := g3.cell 2
  simp at x0 x1 x2 y0 y1 y2
  have z0 := g3.frozen 0
  have z1 := g3.frozen 1
  have z2 := g3.frozen 2
  have G2 := Lib.hid hgrow2
  have O2 := Lib.hid hown2
  have D4 := Lib.hid g3
  have D5 := Lib.hid (Blk.grown (w := w1) (g := g) (t := 35) (cs := #[.slice (some ⟨r, 0, none⟩) l.length cap]) ((B1.out.block g hgl).trans H.out.blk) hgrow2 (K g (by omega)))
  have hg1 : g ≠ w.heap.size := by omega
  have hg2 : g ≠ w.heap.size + 1 := by omega
  clear hgrow2 hown2 g2 g3 K
  go_wp2_with fail
  have s5 := (D4.out.far (p := ⟨g, 0, none⟩) (Ne.symm hg1) (.slice A2 (l.length - 1) cap2))
  have s6 := set3 s5 (.int .i64 p.src) (.int .i64 p.dst) (.string p.data)
  refine bodyPost_ret (v := .tuple #[p.agg, .bool true]) (by
    have y0 := s6.1.cell 0
    have y1 := s6.1.cell 1
    have y2 := s6.1.cell 2
    simp at y0 y1 y2
    simp [results, Try.results18, go_sem, y0, y1, y2, Pk.agg]) rfl ⟨rfl, ?_⟩
  have hle : (l.eraseIdx i).length = l.length - 1 := List.length_eraseIdx_of_lt hlt
  have hpk : pks (l.eraseIdx i) = pks (l.take i) ++ pks (l.drop (i + 1)) := by rw [List.eraseIdx_eq_take_drop_succ, pks_append]
  have hov : ∀ b, (Value.slice A2 (l.length - 1) cap2).ownBlock = some b → w.heap.size + 2 ≤ b := fun b hb => (O2.out.lt b hb).1
  have o7 : Only (fun k => k = g ∨ k = w.heap.size) w2 (((((w2.setCell ⟨g, 0, none⟩ (.slice A2 (l.length - 1) cap2)).setCell ⟨w.heap.size, 0, none⟩ (.int .i64 p.src)).setCell ⟨w.heap.size, 1, none⟩ (.int .i64 p.dst)).setCell ⟨w.heap.size, 2, none⟩ (.string p.data))) :=
    Only.trans (Only.setCell (p := ⟨g, 0, none⟩) (Only.refl _ _) (.inl (.inl rfl)) _) (s6.2.mono fun k _ e => .inr e)
  have d6 := (D5.out.set_ 0 (.slice A2 (l.length - 1) cap2)).only s6.2 hg1
  refine ⟨_, ⟨H.out.hbase, by simpa using d6, ?_⟩, ?_, fun k hk => .inr (by have := hov k hk; omega)⟩
  · rw [hle, hpk]
    exact own_mono (own_only O2.out o7 (by
      intro k hk e
      have := hov k hk
      rcases e with e | e <;> omega)) (by omega)
  · refine Only.then_ (Only.grown (Only.of_below B1.out) G2.out (fun k hk => .inr (by have := N1.out k hk; omega))) o7 ?_
    rintro k (e | e)
    · exact .inl (.inl e)
    · exact .inr (by omega)

set_option maxHeartbeats 1000000 in
theorem refCopy_none (base g : Nat) (v : Value) (k : Int) (w : World) (h : NetAt w 35 base g v []) :
    Calls Try.prog 19 #[.pointer (some ⟨g, 0, none⟩), .int .i64 k] w fun e w' => e = .returned (.int .i64 7) ∧ w = w' := by
  have H := Lib.hid h
  clear h
  go_enter Try.func19, Try.ntmps19
  go_wp2_with (go_at_call 24; refine (at_none base g v k _ H.out).mono ?_; rintro e w' ⟨rfl, rfl⟩)
  go_ret
  exact ⟨rfl, rfl⟩

set_option maxHeartbeats 1000000 in
theorem refCopy_some (base g : Nat) (v : Value) (k : Int) (l : List Pk) (p : Pk) (w : World) (h : NetAt w 35 base g v l) (hl : 0 < l.length) (hl2 : l.length ≤ 60) (hk : I64 k) (hp : l[place k l.length]? = some p) (hbw : base ≤ w.heap.size) :
    Calls Try.prog 19 #[.pointer (some ⟨g, 0, none⟩), .int .i64 k] w (PutAny 35 base g v l p w) := by
  obtain ⟨r, cap, rfl⟩ := netVal h hl
  have hlt := place_lt k l.length hl
  obtain ⟨x, y, zz⟩ := cellsAt h.own _ hlt
  rw [(List.getElem?_eq_some_iff.1 hp).2] at x y zz
  have hg := h.blk.cell 0
  simp only [List.getElem?_toArray, List.getElem?_cons_zero] at hg
  have H := Lib.hid h
  have q0 : (0 : Int) ≤ ((place k l.length : Nat) : Int) := by omega
  have q1 : ((place k l.length : Nat) : Int) < (l.length : Int) := by omega
  have HA := Lib.hid (at_some base g (.slice (some ⟨r, 0, none⟩) l.length cap) k l w h hl (by omega) hk)
  clear h hp
  generalize place k l.length = i at *
  go_enter Try.func19, Try.ntmps19
  go_wp2_with (first | (go_at_call 24; refine HA.out.mono ?_; rintro e w' ⟨rfl, rfl⟩) | (go_at_call 17; refine (refPut_any base g _ l p _ H.out hbw hl2).mono ?_; rintro e w1 ⟨rfl, hr⟩; have HR := Lib.hid hr; clear hr))
  go_ret
  exact ⟨rfl, HR.out⟩
end Go.Proofs.Ytnccgbcmencncaa
