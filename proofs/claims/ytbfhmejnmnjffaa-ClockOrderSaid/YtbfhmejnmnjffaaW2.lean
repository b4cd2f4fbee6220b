/- The three statements of the clock: their walks. -/
import Derived.Test.YtbfhmejnmnjffaaW1
namespace Go.Proofs.Ytbfhmejnmnjffaa
open Go.RowKit

theorem wf_i64 {a : Int} (h : (Lit.int .i64 a).wf = true) : I64 a := by
  have := h
  simp only [Lit.wf, Bool.and_eq_true, decide_eq_true_eq] at this
  exact this
theorem sat_mono (a b : Int) (h : a ≤ b) : sat a ≤ sat b := by unfold sat; omega
theorem time_mono (a b : Int) (h : a ≤ b) : time a ≤ time b := by unfold time; omega

set_option maxHeartbeats 1000000 in
theorem sums_walk (a b : Int) (w : World) (ha : I64 a) (hb : I64 b) :
    Calls Try.prog 4 #[.int .i64 a, .int .i64 b] w fun e w' => e = .returned (.bool true) ∧ Below w.heap.size w w' := by
  have d1 : (sat (a + b) == sat (a + b)) = true := by simp
  have d2 : (time (sat (a + b)) == time (sat (a + b))) = true := by simp
  go_enter Try.func4, Try.ntmps4
  go_wp2_with (first | (go_at_call 7; refine (add_any _ _ _ ha hb).mono ?_; rintro e w' ⟨rfl, rfl⟩) | (go_at_call 9; refine (refAdd_any _ _ _ ha hb).mono ?_; rintro e w' ⟨rfl, rfl⟩) | (go_at_call 10; refine (refTime_any _ _).mono ?_; rintro e w' ⟨rfl, rfl⟩) | (go_at_call 6; refine (local_any _ _ _ ha hb).mono ?_; rintro e w1 ⟨rfl, hb1⟩) | (go_at_call 11; refine (until_any _ _ _ ha hb).mono ?_; rintro e w2 ⟨rfl, hb2⟩) | (go_at_call 8; refine (lives_any _).mono ?_; rintro e w3 ⟨rfl, hb3⟩))
  go_ret
  exact ⟨rfl, hb1.trans ((hb2.mono hb1.size).trans (hb3.mono (Nat.le_trans hb1.size hb2.size)))⟩

theorem half_between (a b : Int) (h : a ≤ b) : a ≤ half a b ∧ half a b ≤ b := by unfold half; omega

set_option maxHeartbeats 1000000 in
theorem half_walk (a b : Int) (w : World) (ha : I64 a) (hb : I64 b) :
    Calls Try.prog 5 #[.int .i64 a, .int .i64 b] w fun e w' => e = .returned (.bool true) ∧ Below w.heap.size w w' := by
  have d1 : (half a b != half a b) = false := by simp
  have d2 : (decide (b ≤ a) != decide (b ≤ a)) = false := by simp
  by_cases c : b < a
  · go_enter Try.func5, Try.ntmps5
    go_wp2_with (first | (go_at_call 12; refine (half_any _ _ _ ha hb).mono ?_; rintro e w' ⟨rfl, rfl⟩) | (go_at_call 13; refine (refHalf_any _ _ _ ha hb).mono ?_; rintro e w' ⟨rfl, rfl⟩) | (go_at_call 14; refine (over_any _ _ _).mono ?_; rintro e w' ⟨rfl, rfl⟩) | (go_at_call 8; refine (lives_any _).mono ?_; rintro e w3 ⟨rfl, hb3⟩))
    go_ret
    exact ⟨rfl, hb3⟩
  · have hh := half_between a b (by omega)
    obtain ⟨h1, h2⟩ := hh
    have d3 : decide (b < a) = false := by simp; omega
    go_enter Try.func5, Try.ntmps5
    go_wp2_with (first | (go_at_call 12; refine (half_any _ _ _ ha hb).mono ?_; rintro e w' ⟨rfl, rfl⟩) | (go_at_call 13; refine (refHalf_any _ _ _ ha hb).mono ?_; rintro e w' ⟨rfl, rfl⟩) | (go_at_call 14; refine (over_any _ _ _).mono ?_; rintro e w' ⟨rfl, rfl⟩) | (go_at_call 8; refine (lives_any _).mono ?_; rintro e w3 ⟨rfl, hb3⟩))
    go_ret
    exact ⟨rfl, hb3⟩

set_option maxHeartbeats 1000000 in
theorem order_le (a b s : Int) (w : World) (ha : I64 a) (hb : I64 b) (hs : I64 s) (h : a ≤ b) :
    Calls Try.prog 3 #[.int .i64 a, .int .i64 b, .int .i64 s] w fun e w' => e = .returned (.bool true) ∧ Below w.heap.size w w' := by
  have d1 := sat_mono (a + s) (b + s) (by omega)
  have d2 := time_mono _ _ d1
  have d0 : ¬ b < a := by omega
  go_enter Try.func3, Try.ntmps3
  go_wp2_with (first | (go_at_call 7; refine (add_any _ _ _ (by assumption) hs).mono ?_; rintro e w' ⟨rfl, rfl⟩) | (go_at_call 6; refine (local_any a _ _ ha hs).mono ?_; rintro e w1 ⟨rfl, hb1⟩) | (go_at_call 6; refine (local_any b _ _ hb hs).mono ?_; rintro e w2 ⟨rfl, hb2⟩) | (go_at_call 8; refine (lives_any _).mono ?_; rintro e w3 ⟨rfl, hb3⟩))
  go_ret
  exact ⟨rfl, hb1.trans ((hb2.mono hb1.size).trans (hb3.mono (Nat.le_trans hb1.size hb2.size)))⟩

set_option maxHeartbeats 1000000 in
theorem order_gt (a b s : Int) (w : World) (ha : I64 a) (hb : I64 b) (hs : I64 s) (h : b < a) :
    Calls Try.prog 3 #[.int .i64 a, .int .i64 b, .int .i64 s] w fun e w' => e = .returned (.bool true) ∧ Below w.heap.size w w' := by
  have d1 := sat_mono (b + s) (a + s) (by omega)
  have d2 := time_mono _ _ d1
  go_enter Try.func3, Try.ntmps3
  go_wp2_with (first | (go_at_call 7; refine (add_any _ _ _ (by assumption) hs).mono ?_; rintro e w' ⟨rfl, rfl⟩) | (go_at_call 6; refine (local_any b _ _ hb hs).mono ?_; rintro e w1 ⟨rfl, hb1⟩) | (go_at_call 6; refine (local_any a _ _ ha hs).mono ?_; rintro e w2 ⟨rfl, hb2⟩) | (go_at_call 8; refine (lives_any _).mono ?_; rintro e w3 ⟨rfl, hb3⟩))
  go_ret
  exact ⟨rfl, hb1.trans ((hb2.mono hb1.size).trans (hb3.mono (Nat.le_trans hb1.size hb2.size)))⟩

theorem order_walk (a b s : Int) (w : World) (ha : I64 a) (hb : I64 b) (hs : I64 s) :
    Calls Try.prog 3 #[.int .i64 a, .int .i64 b, .int .i64 s] w fun e w' => e = .returned (.bool true) ∧ Below w.heap.size w w' := by
  by_cases h : b < a
  · exact order_gt a b s w ha hb hs h
  · exact order_le a b s w ha hb hs (by omega)
end Go.Proofs.Ytbfhmejnmnjffaa
