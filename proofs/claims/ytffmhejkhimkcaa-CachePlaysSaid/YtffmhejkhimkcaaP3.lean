/- CachePlays: its walk. -/
import Derived.Test.YtffmhejkhimkcaaP2
set_option linter.unusedVariables false
namespace Go.Proofs.Ytffmhejkhimkcaa
open Go.RowKit

set_option maxRecDepth 100000 in
set_option maxHeartbeats 4000000 in
theorem plays_walk (A : Option Addr) (n c : Nat) (l : List Dd) (now : Int) (w : World) (h : ArgDds w A n l) (hnow : I64 now) :
    Calls Try.prog 7 #[.slice A n c, .int .i64 now] w fun e w' => e = .returned (.bool true) ∧ Below w.heap.size w w' := by
  have NC := Lib.hid (new_any w)
  have HA := Lib.hid h
  have hln : l.length = n := h.1
  have hnm : n ≤ 9223372036854775807 := by have := h.2.1; unfold maxLen at this; omega
  clear h
  subst hln
  go_enter Try.func7, Try.ntmps7
  go_upto_region 2 with (go_at_call 8; (with_reducible refine NC.out.mono ?_); rintro e w1 ⟨rfl, s1, s2⟩; have S1 := Lib.hid s1; have S2 := Lib.hid s2; clear s1 s2)
  have P1 := Lib.hid (pair_new w w1 S1.out S2.out)
  have B1 : Hid (Below w.heap.size w (w1.alloc (.cells #[.slice none 0 0, .int .i64 0] 36))) := Lib.hid (S2.out.alloc S2.out.size _)
  obtain ⟨gr, hgr⟩ : ∃ gr, gr = w1.heap.size := ⟨_, rfl⟩
  rw [← hgr] at P1
  have HGR := Lib.hid hgr
  clear hgr
  go_upto_region 3 with fail
  rw [← HGR.out]
  generalize w1.alloc (.cells #[.slice none 0 0, .int .i64 0] 36) = W1 at *
  go_wp2_with fail
  go_loopw [7] (fun q wr => ∃ (k : Nat) (vc vr : Value) (L : List Kt) (u : Int), k ≤ l.length ∧ k ≤ 40 ∧ q = .int .i64 k ∧ Hid (0 ≤ u ∧ u ≤ k) ∧ Hid (Pair w.heap.size w.heap.size gr vc vr L L u u wr) ∧ Hid (WF L u) ∧ Hid (AllOk L) ∧ Hid (Below w.heap.size w wr)) (fun q _ => 40 - (intOf q).toNat)
  case atStart => exact ⟨0, _, _, _, 0, by omega, by omega, rfl, Lib.hid (by omega), P1, Lib.hid wf_nil, Lib.hid (fun _ h => by cases h), B1⟩
  case round =>
    clear P1 B1 S1 S2
    obtain ⟨k, vc, vr, L, u, hk1, hk2, rfl, hu, hp, hw, hok, hb⟩ := hrel
    by_cases hlt : k < l.length
    · have i1 : (k : Int) < (l.length : Int) := by omega
      have i0 : (0 : Int) ≤ (k : Int) := by omega
      by_cases hlt2 : k < 40
      · have i2 : (k : Int) < 40 := by omega
        have XA := Lib.hid (fun wx hx => HA.out.dat (wr := wx) hx k hlt)
        have GD := Lib.hid (HA.out.2.2.1 _ (List.getElem_mem hlt))
        obtain ⟨b, o, rfl, hbl, x0, x1, x2, x3, x4, x5, x6, x7, x8, x9⟩ := XA.out wr hb.out
        generalize l[k] = d at *
        have DC := Lib.hid (does_any w.heap.size w.heap.size gr vc vr L u d wr hp.out hw.out hok.out GD.out.1 (by have := hu.out; omega) (GD.out.2.1.below hb.out) (by have := GD.out.2.2; unfold maxLen at this; omega) (fun hpos b' o' e => by
          obtain ⟨b2, o2, e2, h2, _⟩ := GD.out.2.1 hpos
          rw [e2] at e
          cases e
          exact h2))
        go_upto_region 9 with (go_at_call 13; (with_reducible refine DC.out.mono ?_); rintro e w2 ⟨vc2, vr2, L2, u2, rfl, d1, d2, d3, d4, d5, d6, d7⟩; have P2 := Lib.hid d1; have W2 := Lib.hid d2; have O2 := Lib.hid d3; have B2 := Lib.hid (hb.out.trans d7); have U2 : Hid (0 ≤ u2 ∧ u2 ≤ ((k + 1 : Nat) : Int)) := Lib.hid (And.intro (Int.le_trans hu.out.1 d4) (Int.le_trans d5 (Int.le_trans (Int.add_le_add_right hu.out.2 1) (Int.le_refl _)))); clear d1 d2 d3 d4 d5 d6 d7)
        clear x0 x1 x2 x3 x4 x5 x6 x7 x8 x9 hbl DC
        have hfew := W2.out.few
        obtain ⟨Ar, cr, rfl⟩ := own_shape P2.out.r.own
        have hg := P2.out.r.blk.cell 0
        simp only [List.getElem?_toArray, List.getElem?_cons_zero] at hg
        have hglt := P2.out.r.blk.lt
        have AC2 := Lib.hid (all_n _ _ L2.length vc2 L2 u2 w2.drew (P2.out.below (Below.refl _ w2).drew).c (by omega) rfl)
        go_cut [9] from 16 to 56 (fun v wx => v = .bool true ∧ Below w2.heap.size w2 wx)
        case first =>
          go_region_with (first
            | (go_at_call 10; (with_reducible refine AC2.out.mono ?_); rintro e w6 ⟨A6, c6, rfl, t1, t2⟩; have Q6 := Lib.hid ((P2.out.below (Below.refl _ w2).drew).below t2); have B6 := Lib.hid ((Below.refl _ w2).drew.trans t2); have SC := Lib.hid (same_self _ _ (.slice A6 L2.length c6) (.slice Ar L2.length cr) L2 w6 t1 Q6.out.r.own (by omega)); have hg6 := (t2.cell (p := ⟨gr, 0, none⟩) hglt).trans hg; clear t1 t2)
            | (go_at_call 16; (with_reducible refine SC.out.mono ?_); rintro e w7 ⟨rfl, q7, rfl⟩))
          all_goals (go_wp2_with fail)
          all_goals go_meet
          all_goals exact ⟨rfl, below_drewN B6.out q7⟩
        case rest =>
        obtain ⟨rfl, hbc⟩ := hcut
        have P3 := Lib.hid (P2.out.below hbc)
        have B3 := Lib.hid (B2.out.trans (hbc.mono B2.out.size))
        clear hbc hg hglt AC2 P2 B2
        have DD := Lib.hid (due_any _ _ vc2 L2 u2 now wc P3.out.c (by omega))
        have hkl := kept_le (dueP now) L2
        go_upto_region 11 with (first
          | (go_at_call 15; (with_reducible refine DD.out.mono ?_); rintro e w4 ⟨v4, rfl, t1, t2⟩; have OD := Lib.hid t1; have HB4 := Lib.hid t2; have P4 := Lib.hid (P3.out.below t2); have RD := Lib.hid (refDue_any _ _ (.slice Ar L2.length cr) L2 u2 now w4 (P3.out.below t2).r (by omega) O2.out); clear t1 t2)
          | (go_at_call 17; (with_reducible refine RD.out.mono ?_); rintro e w5 ⟨v5, rfl, t1, t2⟩; have HB5 := Lib.hid t2; have SD := Lib.hid (same_self _ _ v4 v5 (keptOf (dueP now) L2) w5 (own_only (F := fun _ => False) OD.out (Only.of_below t2) (fun _ _ h => h)) t1 (by omega)); clear t1 t2)
          | (go_at_call 16; (with_reducible refine SD.out.mono ?_); rintro e w7 ⟨rfl, q7, rfl⟩))
        have P7 := Lib.hid ((P4.out.below HB5.out).below (below_drewN (Below.refl _ _) q7))
        have B7 := Lib.hid (below_drewN ((B3.out.trans (HB4.out.mono B3.out.size)).trans (HB5.out.mono (Nat.le_trans B3.out.size HB4.out.size))) q7)
        generalize w5.drewN q7 = W7 at *
        go_wp2_with fail
        go_roundw
        case rel => exact ⟨k + 1, vc2, _, L2, u2, by omega, by omega, by go_num, U2, P7, W2, O2, B7⟩
        case measure => simp [intOf]; omega
      · have i2 : ¬ (k : Int) < 40 := by omega
        go_wp2_with (go_at_call 11; refine (lives_any _).mono ?_; rintro e w2 ⟨rfl, s⟩; have HL := Lib.hid s; clear s)
        go_ret
        exact ⟨rfl, hb.out.trans (HL.out.mono hb.out.size)⟩
    · have i1 : ¬ (k : Int) < (l.length : Int) := by omega
      go_wp2_with (go_at_call 11; refine (lives_any _).mono ?_; rintro e w2 ⟨rfl, s⟩; have HL := Lib.hid s; clear s)
      go_ret
      exact ⟨rfl, hb.out.trans (HL.out.mono hb.out.size)⟩
end Go.Proofs.Ytffmhejkhimkcaa
