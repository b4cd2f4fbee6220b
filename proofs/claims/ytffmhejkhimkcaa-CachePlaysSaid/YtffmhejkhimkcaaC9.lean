/- CacheFew: its walk. -/
import Derived.Test.YtffmhejkhimkcaaC8
import Derived.Test.YtffmhejkhimkcaaA
set_option linter.unusedVariables false
namespace Go.Proofs.Ytffmhejkhimkcaa
open Go.RowKit

theorem ArgKts.kat {w wr : World} {A : Option Addr} {n : Nat} {l : List Kt} (h : ArgKts w A n l) (hb : Below w.heap.size w wr) (k : Nat) (hk : k < l.length) : ∃ b o, A = some ⟨b, o, none⟩ ∧ b < wr.heap.size ∧ KAt wr b (o + k * 7) l[k] := by
  obtain ⟨b, o, hA, hlt, hc⟩ := h.2.2.2 (by have := h.1; omega)
  exact ⟨b, o, hA, Nat.lt_of_lt_of_le hlt hb.size, (hc k hk).below hb hlt⟩
theorem KAt.drewN {w : World} {g o : Nat} {x : Kt} (h : KAt w g o x) (n : Nat) : KAt (w.drewN n) g o x := h

set_option maxRecDepth 100000 in
set_option maxHeartbeats 4000000 in
theorem few_walk (A : Option Addr) (n c : Nat) (l : List Kt) (w : World) (h : ArgKts w A n l) :
    Calls Try.prog 3 #[.slice A n c] w fun e w' => e = .returned (.bool true) ∧ Below w.heap.size w w' := by
  have NC := Lib.hid (new_any w)
  have HA := Lib.hid h
  have hln : l.length = n := h.1
  have hnm : n ≤ 9223372036854775807 := by have := h.2.1; unfold maxLen at this; omega
  clear h
  subst hln
  go_enter Try.func3, Try.ntmps3
  go_wp2_with (go_at_call 8; (with_reducible refine NC.out.mono ?_); rintro e w1 ⟨rfl, s1, s2⟩; have S1 := Lib.hid s1; have S2 := Lib.hid s2; clear s1 s2)
  go_loopw [4] (fun q wr => ∃ (k : Nat) (v : Value) (L : List Kt), k ≤ l.length ∧ k ≤ 30 ∧ q = .int .i64 k ∧ Hid (CacheAt wr 46 w.heap.size w.heap.size v L k) ∧ Hid (WF L k) ∧ Hid (Below w.heap.size w wr)) (fun q _ => 30 - (intOf q).toNat)
  case atStart => exact ⟨0, _, _, by omega, by omega, rfl, S1, Lib.hid wf_nil, S2⟩
  case round =>
    clear S1 S2
    obtain ⟨k, v, L, hk1, hk2, rfl, hc, hw, hb⟩ := hrel
    by_cases hlt : k < l.length
    · have i1 : (k : Int) < (l.length : Int) := by omega
      have i0 : (0 : Int) ≤ (k : Int) := by omega
      by_cases hlt2 : k < 30
      · have i2 : (k : Int) < 30 := by omega
        have XA := Lib.hid (fun wx hx => HA.out.kat (wr := wx) hx k hlt)
        obtain ⟨b, o, rfl, hbl, x0, x1, x2, x3, x4, x5, x6⟩ := XA.out wr hb.out
        have PC := Lib.hid (put_wf _ _ v L k l[k] wr hc.out hw.out (by omega) hb.out.size)
        have SH := Lib.hid (putL_shape L k l[k] hw.out)
        have W2 := Lib.hid (putL_wf L k l[k] hw.out (by omega))
        generalize l[k] = x at *
        go_upto_region 8 with (go_at_call 9; (with_reducible refine PC.out.mono ?_); rintro e w2 ⟨rfl, v2, s⟩; have S2 := Lib.hid s; clear s)
        clear x0 x1 x2 x3 x4 x5 x6 PC
        obtain ⟨B, hB, hB5, _, hBm, _⟩ := SH.out
        rw [hB] at S2 W2
        have HBM := Lib.hid hBm
        have B2 := Lib.hid (hb.out.trans (S2.out.to_below hc.out (Nat.le_refl _) hb.out.size))
        clear hB SH hBm
        have AC := Lib.hid (all_n _ _ (B.length + 1) v2 _ _ w2 S2.out.at_ (by rw [List.length_append, List.length_singleton]; omega) (by rw [List.length_append, List.length_singleton]))
        obtain ⟨N, hN⟩ : ∃ N, N = B.length + 1 := ⟨_, rfl⟩
        rw [← hN] at AC
        have HN := Lib.hid hN
        clear hN
        go_upto_region 10 with (go_at_call 10; (with_reducible refine AC.out.mono ?_); rintro e w3 ⟨A3, c3, rfl, ho, hb3⟩; have HO := Lib.hid ho; have HB3 := Lib.hid hb3; clear ho hb3)
        have B3 := Lib.hid (B2.out.trans (HB3.out.mono B2.out.size))
        obtain ⟨g3, rfl⟩ : ∃ gg, A3 = some ⟨gg, 0, none⟩ := by
          rcases HO.out.2 with ⟨_, h0⟩ | ⟨gg, cap, cur, hv, _⟩
          · have := HN.out; omega
          · injection hv with hv; exact ⟨gg, hv⟩
        have hg3 := (own_lt HO.out rfl).2
        have CC := Lib.hid (cellsAt HO.out)
        obtain ⟨y0, y1, y2, y3, y4, y5, y6⟩ : KAt w3 g3 (B.length * 7) { x with used := (k : Int) + 1 } := by
          have := CC.out B.length (by rw [List.length_append, List.length_singleton]; omega)
          rw [List.getElem_append_right (Nat.le_refl _)] at this
          simpa using this
        obtain ⟨b', o', hbo, hbl3, x0, x1, x2, x3, x4, x5, x6⟩ := XA.out w3 B3.out
        cases hbo
        have hN := HN.out
        have ws : IntKind.i64.wrap ((N : Int) - 1) = (B.length : Int) := by rw [IntWalk.i64_in _ (by omega)]; omega
        have m0 : (0 : Int) ≤ (B.length : Int) := by omega
        have m1 : (B.length : Int) < (N : Int) := by omega
        have m2 : ¬ (N : Int) < 1 := by omega
        have m3 : ¬ 6 < (N : Int) := by omega
        clear hN
        have ee : (x.entry != x.entry) = false := by simp
        have et : (x.token.toList != x.token.toList) = false := by simp
        go_quiet (fail)
        clear y0 y1 y2 y3 y4 y5 y6 x0 x1 x2 x3 x4 x5 x6 m2 m3 ee et hbl3
        go_wp2_with fail
        go_loopw [7] (fun q wr => ∃ j t : Nat, j ≤ B.length ∧ q = .int .i64 j ∧ wr = w3.drewN t) (fun q _ => B.length - (intOf q).toNat)
        case atStart => exact ⟨0, _, by omega, rfl, rfl⟩
        case round =>
          obtain ⟨j, t, hj, rfl, rfl⟩ := hrel
          by_cases hlt3 : j < B.length
          · have j0 : (0 : Int) ≤ (j : Int) := by omega
            have j1 : (j : Int) < (B.length : Int) := by omega
            have j2 : (j : Int) < (N : Int) := by omega
            obtain ⟨y0, y1, y2, y3, y4, y5, y6⟩ : KAt w3 g3 (j * 7) B[j] := by
              have := CC.out j (by rw [List.length_append, List.length_singleton]; omega)
              rw [List.getElem_append_left hlt3] at this
              exact this
            obtain ⟨b', o', hbo, hbl3, x0, x1, x2, x3, x4, x5, x6⟩ := XA.out w3 B3.out
            cases hbo
            have hm := HBM.out _ (List.getElem_mem hlt3)
            rw [isM_not] at hm
            generalize B[j] = y at *
            by_cases he : y.entry = x.entry
            · have e1 : (y.entry == x.entry) = true := by simp only [beq_iff_eq]; exact he
              have e2 : (y.aud.toList == x.aud.toList) = false := by
                rw [beq_eq_false_iff_ne, ne_eq, toList_eq_iff]
                exact fun h => hm ⟨he, h⟩
              clear he hm
              go_wp2_with fail
              go_quiet (fail)
              go_wp2_with fail
              go_roundw
              case rel => exact ⟨j + 1, _, by omega, by go_num, rfl⟩
              case measure => simp [intOf]; omega
            · have e1 : (y.entry == x.entry) = false := by simp only [beq_eq_false_iff_ne, ne_eq]; exact he
              clear he hm
              go_wp2_with fail
              go_quiet (fail)
              go_wp2_with fail
              go_roundw
              case rel => exact ⟨j + 1, _, by omega, by go_num, rfl⟩
              case measure => simp [intOf]; omega
          · have j1 : ¬ (j : Int) < (B.length : Int) := by omega
            have HCA : Hid (CacheAt (w3.drewN t) 46 w.heap.size w.heap.size v2 (B ++ [{ x with used := (k : Int) + 1 }]) ((k : Int) + 1)) := Lib.hid ((S2.out.below HB3.out).at_.only (F := fun _ => False) ((Only.refl _ _).drewN t) (fun _ _ h => h))
            go_wp2_with fail
            go_roundw
            case rel => exact ⟨k + 1, v2, _, by omega, by omega, by go_num, HCA, W2, Lib.hid (below_drewN B3.out t)⟩
            case measure => simp [intOf]; omega
      · have i2 : ¬ (k : Int) < 30 := by omega
        go_wp2_with (go_at_call 11; refine (lives_any _).mono ?_; rintro e w2 ⟨rfl, s⟩; have HL := Lib.hid s; clear s)
        go_ret
        exact ⟨rfl, hb.out.trans (HL.out.mono hb.out.size)⟩
    · have i1 : ¬ (k : Int) < (l.length : Int) := by omega
      go_wp2_with (go_at_call 11; refine (lives_any _).mono ?_; rintro e w2 ⟨rfl, s⟩; have HL := Lib.hid s; clear s)
      go_ret
      exact ⟨rfl, hb.out.trans (HL.out.mono hb.out.size)⟩
end Go.Proofs.Ytffmhejkhimkcaa
