/- CacheUsed: its walk. -/
import Derived.Test.YtffmhejkhimkcaaC9
import Derived.Test.YtffmhejkhimkcaaM2
set_option linter.unusedVariables false
namespace Go.Proofs.Ytffmhejkhimkcaa
open Go.RowKit

theorem mine_ne (t : ByteArray) (h : t = mineS) : t.toList = [109, 105, 110, 101] := by
  rw [h, ByteArray.toList_eq]
  rfl

set_option maxRecDepth 100000 in
set_option maxHeartbeats 4000000 in
theorem used_walk (A : Option Addr) (n c : Nat) (l : List Kt) (w : World) (h : ArgKts w A n l) :
    Calls Try.prog 4 #[.slice A n c] w fun e w' => e = .returned (.bool true) ∧ Below w.heap.size w w' := by
  have NC := Lib.hid (new_any w)
  have HA := Lib.hid h
  have hln : l.length = n := h.1
  have hnm : n ≤ 9223372036854775807 := by have := h.2.1; unfold maxLen at this; omega
  clear h
  subst hln
  go_enter Try.func4, Try.ntmps4
  go_upto_region 4 with (go_at_call 8; (with_reducible refine NC.out.mono ?_); rintro e w1 ⟨rfl, s1, s2⟩; have S1 := Lib.hid s1; have S2 := Lib.hid s2; clear s1 s2)
  have PC : Hid (Calls Try.prog 9 #[.pointer (some ⟨w.heap.size, 0, none⟩), .agg #[.int .i64 (-1), .string ⟨#[]⟩, .string ⟨#[109, 105, 110, 101]⟩, .int .i64 0, .int .i64 10, .int .i64 0, .string ⟨#[]⟩]] w1 (PutP w.heap.size w.heap.size (.slice none 0 0) (putL [] 0 mine0) (0 + 1) w1)) := Lib.hid (put_wf _ _ (.slice none 0 0) [] 0 mine0 w1 S1.out wf_nil (by decide) S2.out.size)
  go_upto_region 5 with (go_at_call 9; (with_reducible refine PC.out.mono ?_); rintro e w2 ⟨rfl, v2, s⟩; have T2 := Lib.hid s; clear s)
  have W0 : Hid (WF (putL [] 0 mine0) 1) := Lib.hid (putL_wf [] 0 mine0 wf_nil (by decide))
  have M0 := Lib.hid mine_first
  have C0 : Hid (CacheAt w2 46 w.heap.size w.heap.size v2 (putL [] 0 mine0) 1) := Lib.hid T2.out.at_
  have B0 := Lib.hid (S2.out.trans (T2.out.to_below S1.out (Nat.le_refl _) S2.out.size))
  generalize putL [] 0 mine0 = L0 at *
  clear PC T2 S1 S2
  go_wp2_with fail
  go_loopw [4] (fun q wr => ∃ (k : Nat) (v : Value) (L : List Kt) (u : Int), k ≤ l.length ∧ k ≤ 20 ∧ q = .int .i64 k ∧ Hid (0 ≤ u ∧ u ≤ 2 * k + 1) ∧ Hid (CacheAt wr 46 w.heap.size w.heap.size v L u) ∧ Hid (WF L u) ∧ Hid (Mine L u) ∧ Hid (Below w.heap.size w wr)) (fun q _ => 20 - (intOf q).toNat)
  case atStart => exact ⟨0, _, _, 1, by omega, by omega, rfl, Lib.hid (by omega), C0, W0, M0, B0⟩
  case round =>
    clear C0 W0 M0 B0
    obtain ⟨k, v, L, u, hk1, hk2, rfl, hu, hc, hw, hm, hb⟩ := hrel
    by_cases hlt : k < l.length
    · have i1 : (k : Int) < (l.length : Int) := by omega
      have i0 : (0 : Int) ≤ (k : Int) := by omega
      by_cases hlt2 : k < 20
      · have i2 : (k : Int) < 20 := by omega
        have XA := Lib.hid (fun wx hx => HA.out.kat (wr := wx) hx k hlt)
        obtain ⟨b, o, rfl, hbl, x0, x1, x2, x3, x4, x5, x6⟩ := XA.out wr hb.out
        generalize l[k] = x at *
        by_cases hxe : x.entry = -1
        · have e1 : (x.entry == -1) = true := by simp only [beq_iff_eq]; exact hxe
          have U1 : Hid (0 ≤ u ∧ u ≤ 2 * ((k + 1 : Nat) : Int) + 1) := Lib.hid (by have := hu.out; omega)
          clear hxe
          go_wp2_with fail
          go_roundw
          case rel => exact ⟨k + 1, v, L, u, by omega, by omega, by go_num, U1, hc, hw, hm, hb⟩
          case measure => simp [intOf]; omega
        · have e1 : (x.entry == -1) = false := by simp only [beq_eq_false_iff_ne, ne_eq]; exact hxe
          have PC := Lib.hid (put_wf _ _ v L u x wr hc.out hw.out (by have := hu.out; omega) hb.out.size)
          have W2 := Lib.hid (putL_wf L u x hw.out hu.out.1)
          have MS := Lib.hid (mine_step L u x hm.out hw.out hu.out.1 hxe)
          have U1 : Hid (0 ≤ u + 1 + 1 ∧ u + 1 + 1 ≤ 2 * ((k + 1 : Nat) : Int) + 1) := Lib.hid (by have := hu.out; omega)
          generalize putL L u x = L1 at *
          clear hxe
          go_upto_region 10 with (go_at_call 9; (with_reducible refine PC.out.mono ?_); rintro e w2 ⟨rfl, v2, s⟩; have S2 := Lib.hid s; clear s)
          have B2 := Lib.hid (hb.out.trans (S2.out.to_below hc.out (Nat.le_refl _) hb.out.size))
          have GC : Hid (Calls Try.prog 12 #[.pointer (some ⟨w.heap.size, 0, none⟩), .int .i64 (-1), .string ⟨#[]⟩, .int .i64 5] w2 (GetP 46 w.heap.size w.heap.size v2 L1 (u + 1) (-1) ⟨#[]⟩ 5 w2)) := Lib.hid (get_any _ _ v2 L1 (u + 1) (-1) ⟨#[]⟩ 5 w2 S2.out.at_ (by have := hu.out; omega) (by have := W2.out.few; omega) W2.out.ones.uniq)
          go_upto_region 11 with (go_at_call 12; (with_reducible refine GC.out.mono ?_); rintro e w3 hp; obtain ⟨j, hj, p1, _, rfl, hs⟩ := get_hit hp MS.out.1; have S3 := Lib.hid hs; have P1 := Lib.hid p1; clear hp hs p1)
          have B3 := Lib.hid (B2.out.trans (S3.out.to_below S2.out.at_ (Nat.le_refl _) B2.out.size))
          have W3 := Lib.hid (wf_use L1 (u + 1) W2.out (by have := hu.out; omega) j hj)
          have M3 := Lib.hid (MS.out.2 j hj P1.out)
          generalize L1.set j { L1[j] with used := u + 1 + 1 } = L2 at *
          have et := mine_ne _ M3.out.1
          have M4 := Lib.hid M3.out.2
          clear M3
          generalize L1[j].token = tok at *
          clear x0 x1 x2 x3 x4 x5 x6 e1
          go_wp2_with fail
          go_roundw
          case rel => exact ⟨k + 1, v2, L2, u + 1 + 1, by omega, by omega, by go_num, U1, Lib.hid S3.out.at_, W3, M4, B3⟩
          case measure => simp [intOf]; omega
      · have i2 : ¬ (k : Int) < 20 := by omega
        go_wp2_with (go_at_call 11; refine (lives_any _).mono ?_; rintro e w2 ⟨rfl, s⟩; have HL := Lib.hid s; clear s)
        go_ret
        exact ⟨rfl, hb.out.trans (HL.out.mono hb.out.size)⟩
    · have i1 : ¬ (k : Int) < (l.length : Int) := by omega
      go_wp2_with (go_at_call 11; refine (lives_any _).mono ?_; rintro e w2 ⟨rfl, s⟩; have HL := Lib.hid s; clear s)
      go_ret
      exact ⟨rfl, hb.out.trans (HL.out.mono hb.out.size)⟩
end Go.Proofs.Ytffmhejkhimkcaa
