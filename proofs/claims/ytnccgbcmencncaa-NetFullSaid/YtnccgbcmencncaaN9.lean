/- So many packets there may be, and no more: the walk. -/
import Derived.Test.YtnccgbcmencncaaN8
namespace Go.Proofs.Ytnccgbcmencncaa
open Go.RowKit

def FullRel (w0 : World) (k m : Nat) (w : World) : Prop := m = min k 60 ∧ ∃ l, l.length = m ∧ Lives w0 w l

theorem full_put {w0 w : World} {k m : Nat} (h : FullRel w0 k m w) (hk : m < 60) (x : Int) : Calls Try.prog 8 #[.pointer (some ⟨w0.heap.size, 0, none⟩), .agg #[.int .i64 x, .int .i64 0, .string ⟨#[]⟩]] w fun e w' => e = .returned (.int .i64 0) ∧ FullRel w0 (k + 1) (m + 1) w' := by
  obtain ⟨hm, l, hl, h⟩ := h
  refine (put_lives ⟨x, 0, ⟨#[]⟩⟩ h).mono fun e w' ⟨he, h'⟩ => ?_
  rw [putCode_lt (by omega)] at he
  rw [putList_lt (by omega)] at h'
  exact ⟨he, by omega, _, by simp; omega, h'⟩
theorem full_put_not {w0 w : World} {k m : Nat} (h : FullRel w0 k m w) (hk : 60 ≤ m) (x : Int) : Calls Try.prog 8 #[.pointer (some ⟨w0.heap.size, 0, none⟩), .agg #[.int .i64 x, .int .i64 0, .string ⟨#[]⟩]] w fun e w' => e = .returned (.int .i64 6) ∧ FullRel w0 (k + 1) m w' := by
  obtain ⟨hm, l, hl, h⟩ := h
  refine (put_lives ⟨x, 0, ⟨#[]⟩⟩ h).mono fun e w' ⟨he, h'⟩ => ?_
  rw [putCode_ge (by omega)] at he
  rw [putList_ge (by omega)] at h'
  exact ⟨he, by omega, l, hl, h'⟩
theorem full_copy {w0 w : World} {k m : Nat} (h : FullRel w0 k m w) (hk : m < 60) (h0 : 0 < k) : Calls Try.prog 15 #[.pointer (some ⟨w0.heap.size, 0, none⟩), .int .i64 k] w fun e w' => e = .returned (.int .i64 0) ∧ FullRel w0 (k + 1) (m + 1) w' := by
  obtain ⟨hm, l, hl, h⟩ := h
  have hp := List.getElem?_eq_getElem (place_lt k l.length (by omega))
  refine (copy_lives k _ h (by omega) (by omega) ⟨by omega, by omega⟩ hp).mono fun e w' ⟨he, h'⟩ => ?_
  rw [putCode_lt (by omega)] at he
  rw [putList_lt (by omega)] at h'
  exact ⟨he, by omega, _, by simp; omega, h'⟩
theorem full_copy_not {w0 w : World} {k m : Nat} (h : FullRel w0 k m w) (hk : 60 ≤ m) (hk2 : k ≤ 200) : Calls Try.prog 15 #[.pointer (some ⟨w0.heap.size, 0, none⟩), .int .i64 k] w fun e w' => e = .returned (.int .i64 6) ∧ FullRel w0 (k + 1) m w' := by
  obtain ⟨hm, l, hl, h⟩ := h
  have hp := List.getElem?_eq_getElem (place_lt k l.length (by omega))
  refine (copy_lives k _ h (by omega) (by omega) ⟨by omega, by omega⟩ hp).mono fun e w' ⟨he, h'⟩ => ?_
  rw [putCode_ge (by omega)] at he
  rw [putList_ge (by omega)] at h'
  exact ⟨he, by omega, l, hl, h'⟩
theorem full_all {w0 w : World} {k m : Nat} (h : FullRel w0 k m w) : Calls Try.prog 9 #[.pointer (some ⟨w0.heap.size, 0, none⟩)] w fun e w' => ∃ A c, e = .returned (.slice A m c) ∧ Below w0.heap.size w0 w' := by
  obtain ⟨hm, l, hl, h⟩ := h
  refine (all_lives h (by omega)).mono fun e w' ⟨A, c, he, _, h', _⟩ => ⟨A, c, by rw [he, hl], h'.1⟩

set_option maxHeartbeats 4000000 in
theorem full_walk (a : Int) (cp : Bool) (w : World) (ha : I64 a) :
    Calls Try.prog 6 #[.int .i64 a, .bool cp] w fun e w' => e = .returned (.bool true) ∧ Below w.heap.size w w' := by
  obtain ⟨N, hN, hNle⟩ : ∃ N : Nat, up a % 131 = (N : Int) ∧ N ≤ 130 := ⟨(up a % 131).toNat, by have := up_nonneg a; omega, by have := up_nonneg a; omega⟩
  unfold I64 at ha
  by_cases h0 : a < 0
  case' pos =>
    have e0 : up a = -(a + 1) := by unfold up; omega
    rw [e0] at hN
    have hp' : -((a + 1).tmod 131) = (N : Int) := by rw [← hN, ← Int.neg_tmod, Int.tmod_eq_emod_of_nonneg (by omega)]
    clear e0 hN
    go_enter Try.func6, Try.ntmps6
    go_wp2_with (go_at_call 7; refine (new_lives _).mono ?_; rintro e w1 ⟨rfl, n1⟩; have N1 := Lib.hid n1; clear n1)
    clear hp'
  case' neg =>
    have e0 : up a = a := by unfold up; omega
    rw [e0] at hN
    clear e0
    go_enter Try.func6, Try.ntmps6
    go_wp2_with (go_at_call 7; refine (new_lives _).mono ?_; rintro e w1 ⟨rfl, n1⟩; have N1 := Lib.hid n1; clear n1)
    clear hN
  all_goals
    go_loopw [6, 7] (fun many i wr => ∃ k m : Nat, k ≤ N ∧ i = .int .i64 k ∧ many = .int .i64 m ∧ FullRel w k m wr) (fun _ i _ => N - (intOf i).toNat)
    case atStart => exact ⟨0, 0, by omega, rfl, rfl, rfl, [], rfl, N1.out⟩
    case round =>
      obtain ⟨k, m, hk, rfl, rfl, hf⟩ := hrel
      have HF := Lib.hid hf
      clear hf
      by_cases hlt : k < N
      · by_cases hm : m < 60
        · have hm1 : decide ((m : Int) < 60) = true := by simp; omega
          have hmN := hm
          clear hm
          have hm : (m : Int) < 60 := by omega
          cases cp
          · go_wp2_with (go_at_call 8; refine (full_put HF.out hmN _).mono ?_; rintro e w2 ⟨rfl, f2⟩; have F2 := Lib.hid f2; clear f2)
            go_roundw
            case rel => exact ⟨k + 1, m + 1, by omega, by go_num, by go_num, F2.out⟩
            case measure => simp [intOf]; omega
          · by_cases hk0 : 0 < k
            · have hkd : decide ((0 : Int) < (k : Int)) = true := by simp; omega
              go_wp2_with (go_at_call 15; refine (full_copy HF.out hmN hk0).mono ?_; rintro e w2 ⟨rfl, f2⟩; have F2 := Lib.hid f2; clear f2)
              go_roundw
              case rel => exact ⟨k + 1, m + 1, by omega, by go_num, by go_num, F2.out⟩
              case measure => simp [intOf]; omega
            · have hkd : decide ((0 : Int) < (k : Int)) = false := by simp; omega
              go_wp2_with (go_at_call 8; refine (full_put HF.out hmN _).mono ?_; rintro e w2 ⟨rfl, f2⟩; have F2 := Lib.hid f2; clear f2)
              go_roundw
              case rel => exact ⟨k + 1, m + 1, by omega, by go_num, by go_num, F2.out⟩
              case measure => simp [intOf]; omega
        · have hm1 : decide ((m : Int) < 60) = false := by simp; omega
          have hmN : 60 ≤ m := by omega
          clear hm
          have hm : ¬ (m : Int) < 60 := by omega
          have hk60 : 60 ≤ k := by have := HF.out.1; omega
          have hkd : decide ((0 : Int) < (k : Int)) = true := by simp; omega
          have hkp : (0 : Int) < (k : Int) := by omega
          cases cp
          · go_wp2_with (go_at_call 8; refine (full_put_not HF.out hmN _).mono ?_; rintro e w2 ⟨rfl, f2⟩; have F2 := Lib.hid f2; clear f2)
            go_roundw
            case rel => exact ⟨k + 1, m, by omega, by go_num, rfl, F2.out⟩
            case measure => simp [intOf]; omega
          · go_wp2_with (go_at_call 15; refine (full_copy_not HF.out hmN (by omega)).mono ?_; rintro e w2 ⟨rfl, f2⟩; have F2 := Lib.hid f2; clear f2)
            go_roundw
            case rel => exact ⟨k + 1, m, by omega, by go_num, rfl, F2.out⟩
            case measure => simp [intOf]; omega
      · go_wp2_with (first | (go_at_call 9; refine (full_all HF.out).mono ?_; rintro e w2 ⟨A, c, rfl, b2⟩; have B2 := Lib.hid b2; clear b2) | (go_at_call 10; refine (lives_any _).mono ?_; rintro e w3 ⟨rfl, b3⟩; have B3 := Lib.hid b3; clear b3))
        go_ret
        exact ⟨rfl, B2.out.trans (B3.out.mono B2.out.size)⟩
end Go.Proofs.Ytnccgbcmencncaa
