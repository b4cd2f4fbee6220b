/- The time in the middle: the walks. -/
import Derived.Test.YtffmhejkhimkcaaA
set_option linter.unusedVariables false
namespace Go.Proofs.Ytffmhejkhimkcaa
open Go.RowKit

theorem w_over (x : Int) (h : 9223372036854775807 < x) (h2 : x ≤ 18446744073709551615) : wrap64 x = x - 18446744073709551616 := by
  unfold wrap64; omega
theorem w_under (x : Int) (h : x < -9223372036854775808) (h2 : -18446744073709551616 ≤ x) : wrap64 x = x + 18446744073709551616 := by
  unfold wrap64; omega

/-- The time in the middle. -/
def half (a b : Int) : Int := if b < a then a else if 9223372036854775807 < b - a then a + 4611686018427387903 else a + (b - a) / 2

/-- As the code reckons it, of whatever numbers. -/
def halfW (a b : Int) : Int :=
  if b < a then a else if 0 ≤ wrap64 (b - a) then wrap64 (a + wrap64 (Int.tdiv (wrap64 (b - a)) 2)) else
    if 0 < a ∧ wrap64 (a + 4611686018427387903) < a then 9223372036854775807 else wrap64 (a + 4611686018427387903)
theorem halfW_eq (a b : Int) (ha : I64 a) (hb : I64 b) : halfW a b = half a b := by
  unfold I64 at ha hb
  unfold halfW half
  by_cases c1 : b < a
  · rw [if_pos c1, if_pos c1]
  · rw [if_neg c1, if_neg c1]
    by_cases c2 : 9223372036854775807 < b - a
    · have h1 := w_over (b - a) c2 (by omega)
      have h2 : ¬ 0 ≤ wrap64 (b - a) := by omega
      have h3 : wrap64 (a + 4611686018427387903) = a + 4611686018427387903 := by unfold wrap64; omega
      rw [if_neg h2, if_pos c2, h3, if_neg (by omega)]
    · have h1 : wrap64 (b - a) = b - a := by unfold wrap64; omega
      rw [h1, if_pos (by omega), if_neg c2, Int.tdiv_eq_ediv_of_nonneg (by omega)]
      have h2 : wrap64 ((b - a) / 2) = (b - a) / 2 := by unfold wrap64; omega
      rw [h2]
      unfold wrap64
      omega

theorem addC_any (a : Int) (w : World) : Calls Try.prog 36 #[.int .i64 a, .int .i64 4611686018427387903] w fun e w' => e = .returned (.int .i64 (if 0 < a ∧ wrap64 (a + 4611686018427387903) < a then 9223372036854775807 else wrap64 (a + 4611686018427387903))) ∧ w' = w := by
  by_cases c1 : 0 < a
  · by_cases c2 : wrap64 (a + 4611686018427387903) < a
    · rw [if_pos ⟨c1, c2⟩]
      go_enter Try.func36, Try.ntmps36
      go_wp2_with fail
      go_ret
      exact ⟨rfl, rfl⟩
    · rw [if_neg (fun h => c2 h.2)]
      have c3 : ¬ a < 0 := by omega
      go_enter Try.func36, Try.ntmps36
      go_wp2_with fail
      go_ret
      exact ⟨rfl, rfl⟩
  · rw [if_neg (fun h => c1 h.1)]
    by_cases c3 : a < 0
    · go_enter Try.func36, Try.ntmps36
      go_wp2_with fail
      go_ret
      exact ⟨rfl, rfl⟩
    · have HZ : Hid (a + 4611686018427387903 = wrap64 (a + 4611686018427387903)) := Lib.hid (by unfold wrap64; omega)
      go_enter Try.func36, Try.ntmps36
      go_wp2_with fail
      go_ret
      exact ⟨by first | rfl | exact ret_int HZ.out, rfl⟩

set_option maxHeartbeats 1000000 in
theorem half_any (a b : Int) (w : World) : Calls Try.prog 31 #[.int .i64 a, .int .i64 b] w fun e w' => e = .returned (.int .i64 (halfW a b)) ∧ w' = w := by
  by_cases c1 : b < a
  · go_enter Try.func31, Try.ntmps31
    go_wp2_with fail
    go_ret
    exact ⟨ret_int (by unfold halfW; rw [if_pos c1]), rfl⟩
  · by_cases c2 : 0 ≤ wrap64 (b - a)
    · have hr : halfW a b = wrap64 (a + wrap64 (Int.tdiv (wrap64 (b - a)) 2)) := by unfold halfW; rw [if_neg c1, if_pos c2]
      have HR := Lib.hid hr
      clear hr
      go_enter Try.func31, Try.ntmps31
      go_wp2_with fail
      go_ret
      exact ⟨ret_int HR.out.symm, rfl⟩
    · have hr : halfW a b = if 0 < a ∧ wrap64 (a + 4611686018427387903) < a then 9223372036854775807 else wrap64 (a + 4611686018427387903) := by unfold halfW; rw [if_neg c1, if_neg c2]
      have HR := Lib.hid hr
      have AC := Lib.hid (addC_any a w)
      clear hr
      generalize (if 0 < a ∧ wrap64 (a + 4611686018427387903) < a then 9223372036854775807 else wrap64 (a + 4611686018427387903)) = r at *
      go_enter Try.func31, Try.ntmps31
      go_wp2_with (go_at_call 36; (with_reducible refine AC.out.mono ?_); rintro e w ⟨rfl, rfl⟩)
      go_ret
      exact ⟨ret_int HR.out.symm, rfl⟩

set_option maxHeartbeats 400000 in
theorem refHalf_any (a b : Int) (w : World) (ha : I64 a) (hb : I64 b) :
    Calls Try.prog 32 #[.int .i64 a, .int .i64 b] w fun e w' => e = .returned (.int .i64 (half a b)) ∧ w' = w := by
  unfold I64 at ha hb
  by_cases c1 : b < a
  · go_enter Try.func32, Try.ntmps32
    go_wp2
    go_ret
    exact ⟨ret_int (by unfold half; omega), rfl⟩
  · by_cases c2 : 0 ≤ a
    · have d2 : decide (0 ≤ a) = true := by simp; omega
      go_enter Try.func32, Try.ntmps32
      go_wp2
      go_ret
      exact ⟨ret_int (by unfold half; omega), rfl⟩
    · have d2 : decide (0 ≤ a) = false := by simp; omega
      by_cases c3 : b < 9223372036854775807 + a + 1
      · go_enter Try.func32, Try.ntmps32
        go_wp2
        go_ret
        exact ⟨ret_int (by unfold half; omega), rfl⟩
      · go_enter Try.func32, Try.ntmps32
        go_wp2
        go_ret
        exact ⟨ret_int (by unfold half; omega), rfl⟩

end Go.Proofs.Ytffmhejkhimkcaa
