/- CacheOver: its walk. -/
import Derived.Test.YtffmhejkhimkcaaP2
import Derived.Deep.CutBlock
set_option linter.unusedVariables false
namespace Go.Proofs.Ytffmhejkhimkcaa
open Go.RowKit

/-- Each one that is kept was put by one of the first k deeds. -/
def Src (l : List Dd) (k : Nat) (L : List Kt) : Prop := ∀ x ∈ L, ∃ j, ∃ hj : j < l.length, j < k ∧ l[j].kind = 0 ∧ Like x l[j].k
theorem Like.trans {x y z : Kt} (h : Like x y) (k : Like y z) : Like x z := ⟨h.1.trans k.1, h.2.1.trans k.2.1, h.2.2.1.trans k.2.2.1, h.2.2.2.1.trans k.2.2.2.1, h.2.2.2.2.trans k.2.2.2.2⟩
theorem Src.step {l : List Dd} {k : Nat} {L L' : List Kt} (h : Src l k L) (hk : k < l.length) (hs : ∀ x ∈ L', (∃ y ∈ L, Like x y) ∨ (l[k].kind = 0 ∧ Like x l[k].k)) : Src l (k + 1) L' := by
  intro x hx
  rcases hs x hx with ⟨y, hy, hl⟩ | ⟨h0, hl⟩
  · obtain ⟨j, hj, hjk, h0, hl'⟩ := h y hy
    exact ⟨j, hj, by omega, h0, hl.trans hl'⟩
  · exact ⟨k, hk, by omega, h0, hl⟩

set_option maxRecDepth 100000 in
set_option maxHeartbeats 4000000 in
theorem over_walk (A : Option Addr) (n c : Nat) (l : List Dd) (entry : Int) (aud : ByteArray) (now : Int) (w : World) (h : ArgDds w A n l) :
    Calls Try.prog 5 #[.slice A n c, .int .i64 entry, .string aud, .int .i64 now] w fun e w' => e = .returned (.bool true) ∧ Below w.heap.size w w' := by
  have NC := Lib.hid (new_any w)
  have HA := Lib.hid h
  have hln : l.length = n := h.1
  have hnm : n ≤ 9223372036854775807 := by have := h.2.1; unfold maxLen at this; omega
  clear h
  subst hln
  go_enter Try.func5, Try.ntmps5
  go_upto_region 2 with (go_at_call 8; (with_reducible refine NC.out.mono ?_); rintro e w1 ⟨rfl, s1, s2⟩; have S1 := Lib.hid s1; have S2 := Lib.hid s2; clear s1 s2)
  have P1 := Lib.hid (pair_new w w1 S1.out S2.out)
  have B1 : Hid (Below w.heap.size w (w1.alloc (.cells #[.slice none 0 0, .int .i64 0] 36))) := Lib.hid (S2.out.alloc S2.out.size _)
  obtain ⟨gr, hgr⟩ : ∃ gr, gr = w1.heap.size := ⟨_, rfl⟩
  rw [← hgr] at P1
  have HGR := Lib.hid hgr
  clear hgr
  go_upto_region 3 with fail
  rw [← HGR.out]
  generalize w1.alloc (.cells #[.slice none 0 0, .int .i64 0] 36) = W1 at *
  go_upto_block 0 with fail
  go_cut [] from 21 (fun wx => ∃ (vc vr : Value) (L : List Kt) (u : Int), Hid (0 ≤ u ∧ u ≤ 30) ∧ Hid (Pair w.heap.size w.heap.size gr vc vr L L u u wx) ∧ Hid (WF L u) ∧ Hid (Src l 30 L) ∧ Hid (Below w.heap.size w wx))
  case first =>
    go_wp2_with fail
    go_loopw [11] (fun q wr => ∃ (k : Nat) (vc vr : Value) (L : List Kt) (u : Int), k ≤ l.length ∧ k ≤ 30 ∧ q = .int .i64 k ∧ Hid (0 ≤ u ∧ u ≤ k) ∧ Hid (Pair w.heap.size w.heap.size gr vc vr L L u u wr) ∧ Hid (WF L u) ∧ Hid (AllOk L) ∧ Hid (Src l k L) ∧ Hid (Below w.heap.size w wr)) (fun q _ => 30 - (intOf q).toNat)
    case atStart => exact ⟨0, _, _, _, 0, by omega, by omega, rfl, Lib.hid (by omega), P1, Lib.hid wf_nil, Lib.hid (fun _ h => by cases h), Lib.hid (fun _ h => by cases h), B1⟩
    case round =>
      clear P1 B1 S1 S2
      obtain ⟨k, vc, vr, L, u, hk1, hk2, rfl, hu, hp, hw, hok, hsr, hb⟩ := hrel
      have HS30 : Hid (Src l 30 L) := Lib.hid fun x hx => by
        obtain ⟨j, hj, hjk, h0, hl'⟩ := hsr.out x hx
        exact ⟨j, hj, by omega, h0, hl'⟩
      have HU30 : Hid (0 ≤ u ∧ u ≤ 30) := Lib.hid (by have := hu.out; omega)
      by_cases hlt : k < l.length
      · have i1 : (k : Int) < (l.length : Int) := by omega
        have i0 : (0 : Int) ≤ (k : Int) := by omega
        by_cases hlt2 : k < 30
        · have i2 : (k : Int) < 30 := by omega
          have XA := Lib.hid (fun wx hx => HA.out.dat (wr := wx) hx k hlt)
          have GD := Lib.hid (HA.out.2.2.1 _ (List.getElem_mem hlt))
          have ST := Lib.hid (fun L' => hsr.out.step (L' := L') hlt)
          obtain ⟨b, o, rfl, hbl, x0, x1, x2, x3, x4, x5, x6, x7, x8, x9⟩ := XA.out wr hb.out
          generalize l[k] = d at *
          have DC := Lib.hid (does_any w.heap.size w.heap.size gr vc vr L u d wr hp.out hw.out hok.out GD.out.1 (by have := hu.out; omega) (GD.out.2.1.below hb.out) (by have := GD.out.2.2; unfold maxLen at this; omega) (fun hpos b' o' e => by
            obtain ⟨b2, o2, e2, h2, _⟩ := GD.out.2.1 hpos
            rw [e2] at e
            cases e
            exact h2))
          go_wp2_with (go_at_call 13; (with_reducible refine DC.out.mono ?_); rintro e w2 ⟨vc2, vr2, L2, u2, rfl, d1, d2, d3, d4, d5, d6, d7⟩; have P2 := Lib.hid d1; have W2 := Lib.hid d2; have O2 := Lib.hid d3; have B2 := Lib.hid (hb.out.trans d7); have SR2 := Lib.hid (ST.out L2 d6); have U2 : Hid (0 ≤ u2 ∧ u2 ≤ ((k + 1 : Nat) : Int)) := Lib.hid (And.intro (Int.le_trans hu.out.1 d4) (Int.le_trans d5 (Int.le_trans (Int.add_le_add_right hu.out.2 1) (Int.le_refl _)))); clear d1 d2 d3 d4 d5 d6 d7)
          go_roundw
          case rel => exact ⟨k + 1, vc2, vr2, L2, u2, by omega, by omega, by go_num, U2, P2, W2, O2, SR2, B2⟩
          case measure => simp [intOf]; omega
        · have i2 : ¬ (k : Int) < 30 := by omega
          go_wp2_with fail
          go_meet
          exact ⟨vc, vr, L, u, HU30, hp, hw, HS30, hb⟩
      · have i1 : ¬ (k : Int) < (l.length : Int) := by omega
        go_wp2_with fail
        go_meet
        exact ⟨vc, vr, L, u, HU30, hp, hw, HS30, hb⟩
  case rest =>
    clear P1 B1 S1 S2 NC
    obtain ⟨vc, vr, L, u, hu, hp, hw, hsr, hb⟩ := hcut
    have GC := Lib.hid (get_any _ _ vc L u entry aud now wc hp.out.c (by have := hu.out; omega) (by have := hw.out.few; omega) hw.out.ones.uniq)
    by_cases hit : ∃ k, ∃ hk : k < L.length, isM entry aud L[k] = true ∧ now < L[k].exp
    · obtain ⟨kk, hkk, hm, hx⟩ := hit
      have HM := Lib.hid hm
      have HX := Lib.hid hx
      obtain ⟨j0, hj0, hj30, h0, lk⟩ := hsr.out _ (List.getElem_mem hkk)
      have me := (isM_iff _ _ _).1 hm
      have M0 : Hid (l[j0].kind = 0 ∧ l[j0].k.entry = entry ∧ l[j0].k.aud = aud ∧ l[j0].k.token = L[kk].token ∧ now < l[j0].k.exp) := Lib.hid ⟨h0, lk.1.symm.trans me.1, lk.2.1.symm.trans me.2, lk.2.2.1.symm, by rw [← lk.2.2.2.1]; exact hx⟩
      clear hm hx h0 lk me
      go_upto_region 10 with (go_at_call 12; (with_reducible refine GC.out.mono ?_); rintro e w2 hp2; obtain ⟨rfl, s⟩ := get_at hp2 hw.out.ones.uniq kk hkk HM.out HX.out; have B2 := Lib.hid (hb.out.trans (hp.out.toC s)); clear hp2 s)
      generalize L[kk].token = tok at *
      go_wp2_with fail
      go_loopw [14] (fun q wr => ∃ i : Nat, i ≤ j0 ∧ q = .int .i64 i ∧ Hid (Below w.heap.size w wr)) (fun q _ => 30 - (intOf q).toNat)
      case atStart => exact ⟨0, by omega, rfl, B2⟩
      case round =>
        clear B2
        obtain ⟨i, hi, rfl, hb3⟩ := hrel
        have i0 : (0 : Int) ≤ (i : Int) := by omega
        have i1 : (i : Int) < (l.length : Int) := by omega
        have i2 : (i : Int) < 30 := by omega
        obtain ⟨b, o, rfl, hbl, x0, x1, x2, x3, x4, x5, x6, x7, x8, x9⟩ := HA.out.dat hb3.out i (by omega)
        have NJ : Hid (¬ (l[i].kind = 0 ∧ l[i].k.entry = entry ∧ l[i].k.aud = aud ∧ l[i].k.token = tok ∧ now < l[i].k.exp) → i + 1 ≤ j0) := Lib.hid fun hne => by
          by_cases c : i = j0
          · subst c; exact absurd M0.out hne
          · omega
        have B4 : Hid (∀ o, Below w.heap.size w (wr.alloc o)) := Lib.hid fun o => hb3.out.alloc hb3.out.size o
        generalize l[i] = d at *
        by_cases c0 : d.kind = 0
        · have e0 : (d.kind == 0) = true := by simp only [beq_iff_eq]; exact c0
          by_cases c1 : d.k.entry = entry
          · have e1 : (d.k.entry == entry) = true := by simp only [beq_iff_eq]; exact c1
            by_cases c2 : d.k.aud = aud
            · have e2 : (d.k.aud.toList == aud.toList) = true := by rw [c2]; exact beq_self_eq_true _
              by_cases c3 : d.k.token = tok
              · have e3 : (d.k.token.toList == tok.toList) = true := by rw [c3]; exact beq_self_eq_true _
                by_cases c4 : now < d.k.exp
                · skip
                  clear c0 c1 c2 c3 NJ
                  go_wp2_with (go_at_call 11; refine (lives_any _).mono ?_; rintro e w8 ⟨rfl, t⟩; have B8 := Lib.hid t; clear t)
                  go_ret
                  exact ⟨rfl, (B4.out _).trans (B8.out.mono (B4.out _).size)⟩
                · skip
                  have N1 := Lib.hid (NJ.out (fun h => c4 h.2.2.2.2))
                  clear c0 c1 c2 c3
                  clear NJ
                  go_wp2_with fail
                  go_roundw
                  case rel => exact ⟨i + 1, N1.out, by go_num, Lib.hid (B4.out _)⟩
                  case measure => simp [intOf]; omega
              · have e3 : (d.k.token.toList == tok.toList) = false := by rw [beq_eq_false_iff_ne, ne_eq, toList_eq_iff]; exact c3
                have N1 := Lib.hid (NJ.out (fun h => c3 h.2.2.2.1))
                clear c0 c1 c2 c3
                clear NJ
                go_wp2_with fail
                go_roundw
                case rel => exact ⟨i + 1, N1.out, by go_num, Lib.hid (B4.out _)⟩
                case measure => simp [intOf]; omega
            · have e2 : (d.k.aud.toList == aud.toList) = false := by rw [beq_eq_false_iff_ne, ne_eq, toList_eq_iff]; exact c2
              have N1 := Lib.hid (NJ.out (fun h => c2 h.2.2.1))
              clear c0 c1 c2
              clear NJ
              go_wp2_with fail
              go_roundw
              case rel => exact ⟨i + 1, N1.out, by go_num, Lib.hid (B4.out _)⟩
              case measure => simp [intOf]; omega
          · have e1 : (d.k.entry == entry) = false := by simp only [beq_eq_false_iff_ne, ne_eq]; exact c1
            have N1 := Lib.hid (NJ.out (fun h => c1 h.2.1))
            clear c0 c1
            clear NJ
            go_wp2_with fail
            go_roundw
            case rel => exact ⟨i + 1, N1.out, by go_num, Lib.hid (B4.out _)⟩
            case measure => simp [intOf]; omega
        · have e0 : (d.kind == 0) = false := by simp only [beq_eq_false_iff_ne, ne_eq]; exact c0
          have N1 := Lib.hid (NJ.out (fun h => c0 h.1))
          clear c0
          clear NJ
          go_wp2_with fail
          go_roundw
          case rel => exact ⟨i + 1, N1.out, by go_num, Lib.hid (B4.out _)⟩
          case measure => simp [intOf]; omega
    · have NH : Hid (∀ x ∈ L, isM entry aud x = true → x.exp ≤ now) := Lib.hid fun x hx hm => by
        obtain ⟨i, hi, rfl⟩ := List.getElem_of_mem hx
        by_cases c : L[i].exp ≤ now
        · exact c
        · exact absurd ⟨i, hi, hm, by omega⟩ hit
      clear hit
      go_wp2_with (first
        | (go_at_call 12; (with_reducible refine GC.out.mono ?_); rintro e w2 hp2; obtain ⟨rfl, s⟩ := get_miss hp2 NH.out; have B2 := Lib.hid (hb.out.trans (hp.out.toC s)); clear hp2 s)
        | (go_at_call 11; refine (lives_any _).mono ?_; rintro e w8 ⟨rfl, t⟩; have B8 := Lib.hid t; clear t))
      go_ret
      exact ⟨rfl, B2.out.trans (B8.out.mono B2.out.size)⟩
end Go.Proofs.Ytffmhejkhimkcaa
