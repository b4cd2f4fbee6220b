/- ScalarIs: its walk. -/
import Derived.Test.YtbgcdfhnnmopdaaSE
namespace Go.Proofs.Ytbgcdfhnnmopdaa
open Go.RowKit

theorem is_less (X : Int) (h : X < LV) : decide ((32 : Nat) = 32 ∧ X < LV) = true := decide_eq_true ⟨rfl, h⟩

set_option maxHeartbeats 4000000 in
theorem isLaw_walk (A : Option Addr) (n c : Nat) (f : Nat → Int) (w : World) (h : Rd w .u8 A n f) (hc : n ≤ c) :
    Calls Try.prog 5 #[.slice A n c] w fun e w' => e = .returned (.bool true) ∧ Below w.heap.size w w' := by
  have f1 : Calls Try.prog 8 #[.slice A n c, .int .i64 40] w fun e w' => e = .returned (.slice A (min n 40) c) ∧ w' = w := few_any A n c 40 f w h hc
  obtain ⟨m, hm⟩ : ∃ m, m = min n 40 := ⟨_, rfl⟩
  rw [← hm] at f1
  have hm2 : m ≤ 1000 := by omega
  have H := Lib.hid (h.short (m := m) (by omega))
  have F1 := Lib.hid f1
  have c14 := is_any A m c f w H.out (by omega)
  have c15 : ∀ w, Rd w .u8 A m f → _ := fun w h => refIs_any A m c f w h
  generalize decide (m = 32 ∧ sumTo f 32 < LV) = b at c14 c15
  have C14 := Lib.hid c14
  have C15 := Lib.hid c15
  have hbb : (b == b) = true := by simp
  obtain ⟨X, hX⟩ : ∃ X, sumTo f (min m 64) % LV = X := ⟨_, rfl⟩
  have HX := Lib.hid hX
  have HXL : Hid (X < LV) := Lib.hid (by
    have := Int.emod_lt_of_pos (sumTo f (min m 64)) LV_pos.1
    rw [hX] at this
    exact this)
  clear h f1 hm hc c14 c15 hX
  go_enter Try.func5, Try.ntmps5
  go_wp2_with (first
    | (go_at_call 8; (with_reducible refine F1.out.mono ?_); rintro e w ⟨rfl, rfl⟩)
    | (go_at_call 14; (with_reducible refine C14.out.mono ?_); rintro e w1 ⟨rfl, s⟩; have B1 := Lib.hid s; have D15 := Lib.hid (C15.out w1 (H.out.below s)); clear s)
    | (go_at_call 15; (with_reducible refine D15.out.mono ?_); rintro e w2 ⟨rfl, s⟩; have B2 := Lib.hid (arm_w B1.out s); have C9 := Lib.hid (red_fit A m c f X w2 (H.out.below (arm_w B1.out s)) hm2 HX.out); clear s)
    | (go_at_call 9; (with_reducible refine C9.out.mono ?_); rintro e w3 ⟨r3, p3, g3, rfl, _, s1, s2, s3⟩; have B3 := Lib.hid (arm_w B2.out s3); have x := is_any (some ⟨r3, 0, none⟩) 32 p3 g3 w3 s1 (by omega); rw [s2, is_less X HXL.out] at x; have E14 := Lib.hid x; clear x s1 s2 s3)
    | (go_at_call 14; (with_reducible refine E14.out.mono ?_); rintro e w4 ⟨rfl, s⟩; have B4 := Lib.hid (arm_w B3.out s); clear s)
    | (go_at_call 11; refine (lives_any _).mono ?_; rintro e w5 ⟨rfl, s⟩; have B5 := Lib.hid (arm_w B4.out s); clear s))
  go_ret
  exact ⟨rfl, B5.out⟩

end Go.Proofs.Ytbgcdfhnnmopdaa
