/- CacheOwns: its walk. -/
import Derived.Test.YtffmhejkhimkcaaP1
import Derived.Deep.CutBlock
set_option linter.unusedVariables false
namespace Go.Proofs.Ytffmhejkhimkcaa
open Go.RowKit

theorem kts_setEntry : ∀ (l : List Kt) (i : Nat) (d : Int) (h : i < l.length), (kts l).set (i * 7) (.int .i64 d) = kts (l.set i { l[i] with entry := d })
  | [], _, _, h => by simp at h
  | p :: l, 0, d, h => by simp [kts, Kt.cells]
  | p :: l, i + 1, d, h => by
    have ih := kts_setEntry l i d (by simpa using h)
    have e : (i + 1) * 7 = (i * 7) + 1 + 1 + 1 + 1 + 1 + 1 + 1 := by omega
    rw [e]
    simp only [kts, List.flatMap_cons, Kt.cells, List.set_cons_succ, List.cons_append, List.nil_append, List.getElem_cons_succ] at ih ⊢
    rw [ih]
theorem own_setEntry {w : World} {base g n cap : Nat} {l : List Kt} {i : Nat} (h : w.ownsRow base 27 7 (.slice (some ⟨g, 0, none⟩) n cap) n (kts l)) (hi : i < l.length) (hn : l.length = n) (d : Int) :
    (w.setCell ⟨g, i * 7, none⟩ (.int .i64 d)).ownsRow base 27 7 (.slice (some ⟨g, 0, none⟩) n cap) n (kts (l.set i { l[i] with entry := d })) := by
  obtain ⟨cur, hbase, hb, hl, hm, hs, ht⟩ := own_cur h
  subst hn
  refine ⟨by rw [kts_len, List.length_set], .inr ⟨g, cap, _, rfl, hbase, hb.set_ (i * 7) (.int .i64 d), hl, hm, by simpa using hs, ?_⟩⟩
  rw [Array.toList_setIfInBounds, List.take_set, ht, kts_setEntry l i d hi]
theorem Pair.far {S gc gr : Nat} {vc vr : Value} {Lc Lr : List Kt} {uc ur : Int} {w w' : World} {F : Nat → Prop} (h : Pair S gc gr vc vr Lc Lr uc ur w) (hb : Only F w w') (hc : ∀ k, foot gc vc k → ¬ F k) (hr : ∀ k, foot gr vr k → ¬ F k) : Pair S gc gr vc vr Lc Lr uc ur w' :=
  ⟨h.c.only hb hc, h.r.only hb hr, h.apart, Nat.le_trans h.base hb.size⟩
theorem same_self (b1 b2 : Nat) (v u : Value) (l : List Kt) (w : World) (h1 : w.ownsRow b1 27 7 v l.length (kts l)) (h2 : w.ownsRow b2 27 7 u l.length (kts l)) (hl : l.length ≤ 1000) :
    Calls Try.prog 16 #[v, u] w fun e w' => e = .returned (.bool true) ∧ ∃ n, w' = w.drewN n := by
  have := same_any b1 b2 v u l l w h1 h2 hl hl
  rw [decide_eq_true rfl] at this
  exact this
theorem pair_new (w w1 : World) (h : CacheAt w1 46 w.heap.size w.heap.size (.slice none 0 0) [] 0) (hb : Below w.heap.size w w1) : Pair w.heap.size w.heap.size w1.heap.size (.slice none 0 0) (.slice none 0 0) [] [] 0 0 (w1.alloc (.cells #[.slice none 0 0, .int .i64 0] 36)) := by
  have hlt := h.blk.lt
  refine ⟨h.only (F := fun _ => False) ((Only.refl _ _).alloc _) (fun _ _ x => x), ⟨hb.size, Blk.new _ _ _, World.ownsRow_nil _ _ _ _⟩, fun k hk hr => ?_, Nat.le_trans hb.size (by rw [World.size_alloc]; omega)⟩
  rcases hk with rfl | hk
  · rcases hr with x | x
    · omega
    · simp [Value.ownBlock] at x
  · simp [Value.ownBlock] at hk

set_option maxRecDepth 100000 in
set_option maxHeartbeats 4000000 in
theorem owns_walk (A : Option Addr) (n c : Nat) (l : List Kt) (w : World) (h : ArgKts w A n l) :
    Calls Try.prog 6 #[.slice A n c] w fun e w' => e = .returned (.bool true) ∧ Below w.heap.size w w' := by
  have NC := Lib.hid (new_any w)
  have HA := Lib.hid h
  have hln : l.length = n := h.1
  have hnm : n ≤ 9223372036854775807 := by have := h.2.1; unfold maxLen at this; omega
  clear h
  subst hln
  go_enter Try.func6, Try.ntmps6
  go_upto_region 2 with (go_at_call 8; (with_reducible refine NC.out.mono ?_); rintro e w1 ⟨rfl, s1, s2⟩; have S1 := Lib.hid s1; have S2 := Lib.hid s2; clear s1 s2)
  have P1 := Lib.hid (pair_new w w1 S1.out S2.out)
  have B1 : Hid (Below w.heap.size w (w1.alloc (.cells #[.slice none 0 0, .int .i64 0] 36))) := Lib.hid (S2.out.alloc S2.out.size _)
  obtain ⟨gr, hgr⟩ : ∃ gr, gr = w1.heap.size := ⟨_, rfl⟩
  rw [← hgr] at P1
  have HGR := Lib.hid hgr
  clear hgr
  go_upto_region 3 with fail
  rw [← HGR.out]
  generalize w1.alloc (.cells #[.slice none 0 0, .int .i64 0] 36) = W1 at *
  go_upto_block 0 with fail
  go_cut [] from 15 (fun wx => ∃ (vc vr : Value) (L : List Kt) (u : Int), Pair w.heap.size w.heap.size gr vc vr L L u u wx ∧ WF L u ∧ Below w.heap.size w wx)
  case first =>
    go_wp2_with fail
    go_loopw [5] (fun q wr => ∃ (k : Nat) (vc vr : Value) (L : List Kt), k ≤ l.length ∧ k ≤ 8 ∧ q = .int .i64 k ∧ Hid (Pair w.heap.size w.heap.size gr vc vr L L k k wr) ∧ Hid (WF L k) ∧ Hid (Below w.heap.size w wr)) (fun q _ => 8 - (intOf q).toNat)
    case atStart => exact ⟨0, _, _, _, by omega, by omega, rfl, P1, Lib.hid wf_nil, B1⟩
    case round =>
      clear P1 B1 S1 S2
      obtain ⟨k, vc, vr, L, hk1, hk2, rfl, hp, hw, hb⟩ := hrel
      by_cases hlt : k < l.length
      · have i1 : (k : Int) < (l.length : Int) := by omega
        have i0 : (0 : Int) ≤ (k : Int) := by omega
        by_cases hlt2 : k < 8
        · have i2 : (k : Int) < 8 := by omega
          have XA := Lib.hid (fun wx hx => HA.out.kat (wr := wx) hx k hlt)
          obtain ⟨b, o, rfl, hbl, x0, x1, x2, x3, x4, x5, x6⟩ := XA.out wr hb.out
          have PC := Lib.hid (put_wf _ _ vc L k l[k] wr hp.out.c hw.out (by omega) hp.out.base)
          have W2 := Lib.hid (putL_wf L k l[k] hw.out (by omega))
          have hfew := hw.out.few
          generalize l[k] = x at *
          go_upto_region 9 with (go_at_call 9; (with_reducible refine PC.out.mono ?_); rintro e w2 ⟨rfl, v2, s⟩; have S2 := Lib.hid s; clear s)
          clear x0 x1 x2 x3 x4 x5 x6 hbl
          have P2 := Lib.hid (hp.out.onC S2.out)
          have B2 := Lib.hid (hb.out.trans (hp.out.toC S2.out))
          have RC := Lib.hid (refPut_any w.heap.size gr vr L k x w2 P2.out.r (by omega) (by omega) P2.out.base)
          obtain ⟨b', o', hbo, hbl2, x0, x1, x2, x3, x4, x5, x6⟩ := XA.out w2 B2.out
          cases hbo
          generalize putL L k x = L2 at *
          go_wp2_with (go_at_call 14; (with_reducible refine RC.out.mono ?_); rintro e w3 ⟨rfl, v3, s⟩; have S3 := Lib.hid s; clear s)
          go_roundw
          case rel => exact ⟨k + 1, v2, v3, L2, by omega, by omega, by go_num, by have := P2.out.onR S3.out; exact Lib.hid this, W2, Lib.hid (B2.out.trans (P2.out.toR S3.out))⟩
          case measure => simp [intOf]; omega
        · have i2 : ¬ (k : Int) < 8 := by omega
          go_wp2_with fail
          go_meet
          exact ⟨vc, vr, L, k, hp.out, hw.out, hb.out⟩
      · have i1 : ¬ (k : Int) < (l.length : Int) := by omega
        go_wp2_with fail
        go_meet
        exact ⟨vc, vr, L, k, hp.out, hw.out, hb.out⟩
  case rest =>
    obtain ⟨vc, vr, L, u, hp, hw, hb⟩ := hcut
    have P := Lib.hid hp
    have W := Lib.hid hw
    have B := Lib.hid hb
    have hfew := hw.few
    have AC := Lib.hid (all_n _ _ L.length vc L u wc hp.c (by omega) rfl)
    clear hp hw hb P1 B1 S1 S2 NC
    go_upto_region 11 with (go_at_call 10; (with_reducible refine AC.out.mono ?_); rintro e w2 ⟨A2, c2, rfl, s1, s2⟩; have OA := Lib.hid s1; have HB2 := Lib.hid s2; clear s1 s2)
    have P2 := Lib.hid (P.out.below HB2.out)
    have B2 := Lib.hid (B.out.trans (HB2.out.mono B.out.size))
    have DC : Hid (Calls Try.prog 15 #[.pointer (some ⟨w.heap.size, 0, none⟩), .int .i64 5] w2 fun e w' => ∃ v', e = .returned v' ∧ w'.ownsRow w2.heap.size 27 7 v' (keptOf (dueP 5) L).length (kts (keptOf (dueP 5) L)) ∧ Below w2.heap.size w2 w') := Lib.hid (due_any _ _ vc L u 5 w2 P2.out.c (by omega))
    have hkl := kept_le (dueP 5) L
    generalize keptOf (dueP 5) L = D at *
    go_upto_region 12 with (go_at_call 15; (with_reducible refine DC.out.mono ?_); rintro e w3 ⟨v3, rfl, s1, s2⟩; obtain ⟨A3, c3, rfl⟩ := own_shape s1; have OD := Lib.hid s1; have HB3 := Lib.hid s2; clear s1 s2)
    have P3 := Lib.hid (P2.out.below HB3.out)
    have B3 := Lib.hid (B2.out.trans (HB3.out.mono B2.out.size))
    have OA3 := Lib.hid (own_only (F := fun _ => False) OA.out (Only.of_below HB3.out) (fun _ _ h => h))
    have FA : Hid (∀ k, (Value.slice A2 L.length c2).ownBlock = some k → wc.heap.size ≤ k ∧ k < w2.heap.size) := Lib.hid fun k hk => own_lt OA.out hk
    have FD : Hid (∀ k, (Value.slice A3 D.length c3).ownBlock = some k → w2.heap.size ≤ k ∧ k < w3.heap.size) := Lib.hid fun k hk => own_lt OD.out hk
    go_wp2_with fail
    go_loopw [8] (fun q wr => ∃ (k : Nat) (l' : List Kt), k ≤ L.length ∧ l'.length = L.length ∧ q = .int .i64 k ∧ Hid (Pair w.heap.size w.heap.size gr vc vr L L u u wr) ∧ Hid (wr.ownsRow wc.heap.size 27 7 (.slice A2 L.length c2) L.length (kts l')) ∧ Hid (wr.ownsRow w2.heap.size 27 7 (.slice A3 D.length c3) D.length (kts D)) ∧ Hid (Below w.heap.size w wr)) (fun q _ => L.length - (intOf q).toNat)
    case atStart => exact ⟨0, L, by omega, rfl, rfl, P3, OA3, OD, B3⟩
    case round =>
      clear P3 OA3 B3 P2 B2
      obtain ⟨k, l', hk, hl', rfl, p3, oa, od, b3⟩ := hrel
      by_cases hlt : k < L.length
      · have k0 : (0 : Int) ≤ (k : Int) := by omega
        have k1 : (k : Int) < (L.length : Int) := by omega
        obtain ⟨gA, rfl, hgA, hcA⟩ := row_cells oa.out (by omega)
        have x0 := (hcA k (by omega)).1
        obtain ⟨cur, _, hbk, _⟩ := own_cur oa.out
        have fz := hbk.frozen (k * 7)
        have hfa := FA.out gA rfl
        have FPc : Hid (∀ j, foot w.heap.size vc j → ¬ j = gA) := Lib.hid fun j hj e => by have := (P.out.c.foot_lt j hj).2; omega
        have FPr : Hid (∀ j, foot gr vr j → ¬ j = gA) := Lib.hid fun j hj e => by have := (P.out.r.foot_lt j hj).2; omega
        have FDa : Hid (∀ j, (Value.slice A3 D.length c3).ownBlock = some j → ¬ j = gA) := Lib.hid fun j hj e => by have := (FD.out j hj).1; omega
        have hSA : w.heap.size ≤ gA := Nat.le_trans B.out.size hfa.1
        have OE := Lib.hid (own_setEntry oa.out (show k < l'.length by omega) hl' (-9))
        have hl2 : (l'.set k { l'[k] with entry := -9 }).length = L.length := by rw [List.length_set]; exact hl'
        generalize l'.set k { l'[k] with entry := -9 } = l2 at *
        clear hcA hbk hfa
        generalize l'[k].entry = en at *
        go_wp2_with fail
        go_roundw
        case rel =>
          have ON : Only (fun b => b = gA) wr (wr.setCell ⟨gA, k * 7, none⟩ (.int .i64 (-9))) := Only.setCell (F := fun b => b = gA) (p := ⟨gA, k * 7, none⟩) (Only.refl _ _) (.inl rfl) _
          exact ⟨k + 1, l2, by omega, hl2, by go_num, Lib.hid (p3.out.far ON FPc.out FPr.out), OE, Lib.hid (own_only od.out ON FDa.out), Lib.hid (b3.out.setCell (p := ⟨gA, k * 7, none⟩) hSA _)⟩
        case measure => simp [intOf]; omega
      · have k1 : ¬ (k : Int) < (L.length : Int) := by omega
        clear oa
        go_wp2_with fail
        go_loopw [9] (fun q wr => ∃ (i : Nat) (d' : List Kt), i ≤ D.length ∧ d'.length = D.length ∧ q = .int .i64 i ∧ Hid (Pair w.heap.size w.heap.size gr vc vr L L u u wr) ∧ Hid (wr.ownsRow w2.heap.size 27 7 (.slice A3 D.length c3) D.length (kts d')) ∧ Hid (Below w.heap.size w wr)) (fun q _ => D.length - (intOf q).toNat)
        case atStart => exact ⟨0, D, by omega, rfl, rfl, p3, od, b3⟩
        case round =>
          clear p3 od b3
          obtain ⟨i, d', hi, hd', rfl, p3, od, b3⟩ := hrel
          by_cases hlt : i < D.length
          · have k0 : (0 : Int) ≤ (i : Int) := by omega
            have k1 : (i : Int) < (D.length : Int) := by omega
            obtain ⟨gA, rfl, hgA, hcA⟩ := row_cells od.out (by omega)
            have x0 := (hcA i (by omega)).1
            obtain ⟨cur, _, hbk, _⟩ := own_cur od.out
            have fz := hbk.frozen (i * 7)
            have hfa := FD.out gA rfl
            have hw2 : wc.heap.size ≤ w2.heap.size := HB2.out.size
            have FPc : Hid (∀ j, foot w.heap.size vc j → ¬ j = gA) := Lib.hid fun j hj e => by have := (P.out.c.foot_lt j hj).2; omega
            have FPr : Hid (∀ j, foot gr vr j → ¬ j = gA) := Lib.hid fun j hj e => by have := (P.out.r.foot_lt j hj).2; omega
            have hSA : w.heap.size ≤ gA := Nat.le_trans B.out.size (Nat.le_trans hw2 hfa.1)
            have OE := Lib.hid (own_setEntry od.out (show i < d'.length by omega) hd' (-9))
            have hl2 : (d'.set i { d'[i] with entry := -9 }).length = D.length := by rw [List.length_set]; exact hd'
            generalize d'.set i { d'[i] with entry := -9 } = l2 at *
            clear hcA hbk hfa
            generalize d'[i].entry = en at *
            go_wp2_with fail
            go_roundw
            case rel =>
              have ON : Only (fun b => b = gA) wr (wr.setCell ⟨gA, i * 7, none⟩ (.int .i64 (-9))) := Only.setCell (F := fun b => b = gA) (p := ⟨gA, i * 7, none⟩) (Only.refl _ _) (.inl rfl) _
              exact ⟨i + 1, l2, by omega, hl2, by go_num, Lib.hid (p3.out.far ON FPc.out FPr.out), OE, Lib.hid (b3.out.setCell (p := ⟨gA, i * 7, none⟩) hSA _)⟩
            case measure => simp [intOf]; omega
          · have k1 : ¬ (i : Int) < (D.length : Int) := by omega
            obtain ⟨Ar, cr, rfl⟩ := own_shape p3.out.r.own
            have hg := p3.out.r.blk.cell 0
            simp only [List.getElem?_toArray, List.getElem?_cons_zero] at hg
            have hglt := p3.out.r.blk.lt
            have AC2 := Lib.hid (all_n _ _ L.length vc L u wr.drew (p3.out.below (Below.refl _ wr).drew).c (by omega) rfl)
            go_wp2_with fail
            go_region_with (first
              | (go_at_call 10; (with_reducible refine AC2.out.mono ?_); rintro e w6 ⟨A6, c6, rfl, t1, t2⟩; have Q6 := Lib.hid ((p3.out.below (Below.refl _ wr).drew).below t2); have B6 := Lib.hid ((Below.refl _ wr).drew.trans t2); have SC := Lib.hid (same_self _ _ (.slice A6 L.length c6) (.slice Ar L.length cr) L w6 t1 Q6.out.r.own (by omega)); have hg6 := (t2.cell (p := ⟨gr, 0, none⟩) hglt).trans hg; clear t1 t2)
              | (go_at_call 16; (with_reducible refine SC.out.mono ?_); rintro e w7 ⟨rfl, q7, rfl⟩)
              | (go_at_call 11; refine (lives_any _).mono ?_; rintro e w8 ⟨rfl, t⟩; have B8 := Lib.hid t; clear t))
            all_goals (go_wp2_with fail)
            all_goals go_ret
            all_goals exact ⟨rfl, (b3.out.trans (B6.out.mono b3.out.size)).trans (((below_drewN (Below.refl _ _) q7).trans B8.out).mono (Nat.le_trans b3.out.size B6.out.size))⟩
end Go.Proofs.Ytffmhejkhimkcaa
