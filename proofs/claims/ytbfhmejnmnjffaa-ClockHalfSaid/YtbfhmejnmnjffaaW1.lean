/- The clock package's functions and their document's: what each computes. -/
import Derived.Test.YtbfhmejnmnjffaaRows
import Derived.WalkKit
import Derived.WalkSpells
import Derived.WalkLawsBesides
import Derived.Lib.Hide
namespace Go.Proofs.Ytbfhmejnmnjffaa
open Go.RowKit

def sat (x : Int) : Int := if 9223372036854775807 < x then 9223372036854775807 else if x < -9223372036854775808 then -9223372036854775808 else x
def I64 (x : Int) : Prop := -9223372036854775808 ≤ x ∧ x ≤ 9223372036854775807

theorem sat_over (x : Int) (h : 9223372036854775807 < x) : sat x = 9223372036854775807 := by unfold sat; omega
theorem sat_under (x : Int) (h : x < -9223372036854775808) : sat x = -9223372036854775808 := by unfold sat; omega
theorem sat_in (x : Int) (h : I64 x) : sat x = x := by unfold sat; unfold I64 at h; omega
theorem sat_i64 (x : Int) : I64 (sat x) := by unfold sat I64; omega

theorem w_over (x : Int) (h : 9223372036854775807 < x) (h2 : x ≤ 18446744073709551615) : wrap64 x = x - 18446744073709551616 := by
  unfold wrap64; omega
theorem w_under (x : Int) (h : x < -9223372036854775808) (h2 : -18446744073709551616 ≤ x) : wrap64 x = x + 18446744073709551616 := by
  unfold wrap64; omega

theorem ret_int {k : IntKind} {a b : Int} (h : a = b) : Ending.returned (.int k a) = .returned (.int k b) := by rw [h]
theorem ret_bool {a b : Bool} (h : a = b) : Ending.returned (.bool a) = .returned (.bool b) := by rw [h]

set_option maxHeartbeats 400000 in
theorem add_over (a b : Int) (w : World) (ha : I64 a) (hb : I64 b) (h : 9223372036854775807 < a + b) :
    Calls Try.prog 7 #[.int .i64 a, .int .i64 b] w fun e w' => e = .returned (.int .i64 9223372036854775807) ∧ w = w' := by
  unfold I64 at ha hb
  have h1 := w_over (a + b) h (by omega)
  have e1 : (0 : Int) < a := by omega
  have e2 : (0 : Int) < b := by omega
  have e3 : wrap64 (a + b) < a := by omega
  clear h1
  go_enter Try.func7, Try.ntmps7
  go_wp2
  go_ret
  exact ⟨rfl, rfl⟩

set_option maxHeartbeats 400000 in
theorem add_under (a b : Int) (w : World) (ha : I64 a) (hb : I64 b) (h : a + b < -9223372036854775808) :
    Calls Try.prog 7 #[.int .i64 a, .int .i64 b] w fun e w' => e = .returned (.int .i64 (-9223372036854775808)) ∧ w = w' := by
  unfold I64 at ha hb
  have h1 := w_under (a + b) h (by omega)
  have e1 : a < 0 := by omega
  have e2 : b < 0 := by omega
  have e3 : 0 ≤ wrap64 (a + b) := by omega
  have e4 : decide (0 < a) = false := by simp; omega
  clear h1
  go_enter Try.func7, Try.ntmps7
  go_wp2
  go_ret
  exact ⟨rfl, rfl⟩

set_option maxHeartbeats 400000 in
theorem add_in (a b : Int) (w : World) (ha : I64 a) (hb : I64 b) (h : I64 (a + b)) :
    Calls Try.prog 7 #[.int .i64 a, .int .i64 b] w fun e w' => e = .returned (.int .i64 (a + b)) ∧ w = w' := by
  unfold I64 at ha hb h
  by_cases c1 : 0 < a
  · by_cases c2 : 0 < b
    · have e3 : ¬ a + b < a := by omega
      go_enter Try.func7, Try.ntmps7
      go_wp2
      go_ret
      exact ⟨rfl, rfl⟩
    · go_enter Try.func7, Try.ntmps7
      go_wp2
      go_ret
      exact ⟨rfl, rfl⟩
  · by_cases c2 : a < 0
    · by_cases c3 : b < 0
      · have e3 : ¬ 0 ≤ a + b := by omega
        go_enter Try.func7, Try.ntmps7
        go_wp2
        go_ret
        exact ⟨rfl, rfl⟩
      · go_enter Try.func7, Try.ntmps7
        go_wp2
        go_ret
        exact ⟨rfl, rfl⟩
    · go_enter Try.func7, Try.ntmps7
      go_wp2
      go_ret
      exact ⟨rfl, rfl⟩

theorem add_any (a b : Int) (w : World) (ha : I64 a) (hb : I64 b) :
    Calls Try.prog 7 #[.int .i64 a, .int .i64 b] w fun e w' => e = .returned (.int .i64 (sat (a + b))) ∧ w = w' := by
  by_cases h1 : 9223372036854775807 < a + b
  · rw [sat_over _ h1]; exact add_over a b w ha hb h1
  · by_cases h2 : a + b < -9223372036854775808
    · rw [sat_under _ h2]; exact add_under a b w ha hb h2
    · have h : I64 (a + b) := by unfold I64; omega
      rw [sat_in _ h]; exact add_in a b w ha hb h

/-- What is left of a sum, as a time that may be. -/
def time (x : Int) : Int := if x < 0 then 0 else if 1099511627776 < x then 1099511627776 else x

def acc (a b : Int) : Nat → Int
  | 0 => 0
  | 1 => a
  | _ => sat (a + b)

theorem acc_i64 (a b : Int) (ha : I64 a) (k : Nat) : I64 (acc a b k) := by
  match k with
  | 0 => exact ⟨by simp only [acc]; omega, by simp only [acc]; omega⟩
  | 1 => exact ha
  | (n + 2) => exact sat_i64 _

set_option maxHeartbeats 1000000 in
theorem within_two (a b : Int) (bl : Nat) (w : World) (ha : I64 a) (hb : I64 b) (h0 : w.cell? ⟨bl, 0, none⟩ = some (.int .i64 a)) (h1 : w.cell? ⟨bl, 1, none⟩ = some (.int .i64 b)) :
    Calls Try.prog 15 #[.slice (some ⟨bl, 0, none⟩) 2 2] w fun e w' => e = .returned (.int .i64 (time (sat (a + b)))) ∧ w = w' := by
  go_enter Try.func15, Try.ntmps15
  go_wp2
  go_loop [3, 8] (fun t i => ∃ k : Nat, k ≤ 2 ∧ i = .int .i64 k ∧ t = .int .i64 (acc a b k)) (fun _ i => 2 - (intOf i).toNat)
  case atStart => exact ⟨0, by omega, rfl, rfl⟩
  case round =>
    obtain ⟨k, hk, rfl, rfl⟩ := hrel
    rcases (by omega : k = 0 ∨ k = 1 ∨ k = 2) with rfl | rfl | rfl
    · go_wp2_with (go_at_call 7; refine (add_any _ _ _ (acc_i64 a b ha _) ha).mono ?_; rintro e w' ⟨rfl, rfl⟩)
      go_round
      case rel => exact ⟨1, by omega, by go_num, by simp [acc, sat_in a ha]⟩
      case measure => simp [intOf]
    · go_wp2_with (go_at_call 7; refine (add_any _ _ _ (acc_i64 a b ha _) hb).mono ?_; rintro e w' ⟨rfl, rfl⟩)
      go_round
      case rel => exact ⟨2, by omega, by go_num, by simp [acc]⟩
      case measure => simp [intOf]
    · have e0 : acc a b 2 = sat (a + b) := rfl
      generalize acc a b 2 = x at e0
      have H := Lib.hid e0
      clear e0
      by_cases c1 : x < 0
      · go_wp2
        go_ret
        exact ⟨ret_int (by rw [← H.out]; unfold time; omega), rfl⟩
      · by_cases c2 : 1099511627776 < x
        · go_wp2
          go_ret
          exact ⟨ret_int (by rw [← H.out]; unfold time; omega), rfl⟩
        · go_wp2
          all_goals (go_ret; exact ⟨ret_int (by rw [← H.out]; unfold time; omega), rfl⟩)

set_option maxHeartbeats 400000 in
theorem local_any (a b : Int) (w : World) (ha : I64 a) (hb : I64 b) :
    Calls Try.prog 6 #[.int .i64 a, .int .i64 b] w fun e w' => e = .returned (.int .i64 (time (sat (a + b)))) ∧ Below w.heap.size w w' := by
  go_enter Try.func6, Try.ntmps6
  go_wp2_with (go_at_call 15; refine (within_two a b _ _ ha hb (by go_simp) (by go_simp)).mono ?_; rintro e w' ⟨rfl, rfl⟩)
  go_ret
  exact ⟨rfl, (Below.refl _ _).alloc (Nat.le_refl _) _⟩

set_option maxHeartbeats 400000 in
theorem until_any (a b : Int) (w : World) (ha : I64 a) (hb : I64 b) :
    Calls Try.prog 11 #[.int .i64 a, .int .i64 b] w fun e w' => e = .returned (.int .i64 (time (sat (a + b)))) ∧ Below w.heap.size w w' := by
  go_enter Try.func11, Try.ntmps11
  go_wp2_with (go_at_call 15; refine (within_two a b _ _ ha hb (by go_simp) (by go_simp)).mono ?_; rintro e w' ⟨rfl, rfl⟩)
  go_ret
  exact ⟨rfl, (Below.refl _ _).alloc (Nat.le_refl _) _⟩

set_option maxHeartbeats 400000 in
theorem refTime_any (a : Int) (w : World) :
    Calls Try.prog 10 #[.int .i64 a] w fun e w' => e = .returned (.int .i64 (time a)) ∧ w = w' := by
  by_cases c1 : a < 0
  · go_enter Try.func10, Try.ntmps10
    go_wp2
    go_ret
    exact ⟨ret_int (by unfold time; omega), rfl⟩
  · by_cases c2 : 1099511627776 < a
    · go_enter Try.func10, Try.ntmps10
      go_wp2
      go_ret
      exact ⟨ret_int (by unfold time; omega), rfl⟩
    · go_enter Try.func10, Try.ntmps10
      go_wp2
      go_ret
      exact ⟨ret_int (by unfold time; omega), rfl⟩

set_option maxHeartbeats 400000 in
theorem refAdd_any (a b : Int) (w : World) (ha : I64 a) (hb : I64 b) :
    Calls Try.prog 9 #[.int .i64 a, .int .i64 b] w fun e w' => e = .returned (.int .i64 (sat (a + b))) ∧ w = w' := by
  unfold I64 at ha hb
  by_cases c1 : 0 < b
  · by_cases c2 : 9223372036854775807 - b < a
    · go_enter Try.func9, Try.ntmps9
      go_wp2
      go_ret
      exact ⟨ret_int (by unfold sat; omega), rfl⟩
    · go_enter Try.func9, Try.ntmps9
      go_wp2
      go_ret
      exact ⟨ret_int (by unfold sat; omega), rfl⟩
  · have d1 : decide (0 < b) = false := by simp; omega
    by_cases c2 : b < 0
    · by_cases c3 : a < -9223372036854775808 - b
      · go_enter Try.func9, Try.ntmps9
        go_wp2
        go_ret
        exact ⟨ret_int (by unfold sat; omega), rfl⟩
      · go_enter Try.func9, Try.ntmps9
        go_wp2
        go_ret
        exact ⟨ret_int (by unfold sat; omega), rfl⟩
    · have d2 : decide (b < 0) = false := by simp; omega
      go_enter Try.func9, Try.ntmps9
      go_wp2
      go_ret
      exact ⟨ret_int (by unfold sat; omega), rfl⟩

set_option maxHeartbeats 400000 in
theorem over_any (a b : Int) (w : World) :
    Calls Try.prog 14 #[.int .i64 a, .int .i64 b] w fun e w' => e = .returned (.bool (decide (b ≤ a))) ∧ w = w' := by
  go_enter Try.func14, Try.ntmps14
  go_wp2
  go_ret
  exact ⟨rfl, rfl⟩

/-- The time in the middle. -/
def half (a b : Int) : Int := if b < a then a else if 9223372036854775807 < b - a then a + 4611686018427387903 else a + (b - a) / 2

set_option maxHeartbeats 400000 in
theorem half_any (a b : Int) (w : World) (ha : I64 a) (hb : I64 b) :
    Calls Try.prog 12 #[.int .i64 a, .int .i64 b] w fun e w' => e = .returned (.int .i64 (half a b)) ∧ w = w' := by
  have HA := Lib.hid ha
  unfold I64 at ha hb
  by_cases c1 : b < a
  · go_enter Try.func12, Try.ntmps12
    go_wp2
    go_ret
    exact ⟨ret_int (by unfold half; omega), rfl⟩
  · by_cases c2 : 9223372036854775807 < b - a
    · have e1 := w_over (b - a) c2 (by omega)
      have e2 : ¬ 0 ≤ wrap64 (b - a) := by omega
      clear e1
      go_enter Try.func12, Try.ntmps12
      go_wp2_with (go_at_call 7; refine (add_any _ _ _ HA.out (by unfold I64; omega)).mono ?_; rintro e w' ⟨rfl, rfl⟩)
      go_ret
      exact ⟨ret_int (by unfold half sat; omega), rfl⟩
    · go_enter Try.func12, Try.ntmps12
      go_wp2
      go_ret
      exact ⟨ret_int (by unfold half; omega), rfl⟩

set_option maxHeartbeats 400000 in
theorem refHalf_any (a b : Int) (w : World) (ha : I64 a) (hb : I64 b) :
    Calls Try.prog 13 #[.int .i64 a, .int .i64 b] w fun e w' => e = .returned (.int .i64 (half a b)) ∧ w = w' := by
  unfold I64 at ha hb
  by_cases c1 : b < a
  · go_enter Try.func13, Try.ntmps13
    go_wp2
    go_ret
    exact ⟨ret_int (by unfold half; omega), rfl⟩
  · by_cases c2 : 0 ≤ a
    · have d2 : decide (0 ≤ a) = true := by simp; omega
      go_enter Try.func13, Try.ntmps13
      go_wp2
      go_ret
      exact ⟨ret_int (by unfold half; omega), rfl⟩
    · have d2 : decide (0 ≤ a) = false := by simp; omega
      by_cases c3 : b < 9223372036854775807 + a + 1
      · go_enter Try.func13, Try.ntmps13
        go_wp2
        go_ret
        exact ⟨ret_int (by unfold half; omega), rfl⟩
      · go_enter Try.func13, Try.ntmps13
        go_wp2
        go_ret
        exact ⟨ret_int (by unfold half; omega), rfl⟩

set_option maxHeartbeats 1000000 in
theorem lives_any (w : World) : Calls Try.prog 8 #[] w fun e w' => e = .returned (.bool true) ∧ Below w.heap.size w w' := by
  have d1 : (sat (9223372036854775807 + 1) == 9223372036854775807) = true := by decide
  have d2 : (time (sat (5 + -9)) == 0) = true := by decide
  have d3 : (half 10 21 == 15) = true := by decide
  go_enter Try.func8, Try.ntmps8
  go_wp2_with (first | (go_at_call 7; refine (add_any _ _ _ ⟨by omega, by omega⟩ ⟨by omega, by omega⟩).mono ?_; rintro e w' ⟨rfl, rfl⟩) | (go_at_call 6; refine (local_any _ _ _ ⟨by omega, by omega⟩ ⟨by omega, by omega⟩).mono ?_; rintro e w1 ⟨rfl, hb1⟩) | (go_at_call 12; refine (half_any _ _ _ ⟨by omega, by omega⟩ ⟨by omega, by omega⟩).mono ?_; rintro e w' ⟨rfl, rfl⟩))
  go_ret
  exact ⟨rfl, ‹_›⟩
end Go.Proofs.Ytbfhmejnmnjffaa
