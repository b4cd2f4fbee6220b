/- The laws: their walks. -/
import Derived.Test.YtbgcdfhnnmopdaaSD
import Derived.Test.YtbgcdfhnnmopdaaT4
namespace Go.Proofs.Ytbgcdfhnnmopdaa
open Go.RowKit

theorem red_fit (A : Option Addr) (n c : Nat) (f : Nat → Int) (X : Int) (w : World) (h : Rd w .u8 A n f) (hn : n ≤ 1000) (hX : sumTo f (min n 64) % LV = X) : Calls Try.prog 9 #[.slice A n c] w (Own w X) := by
  have := (reduce_any A n c f w h (by omega)).mono fun e w' => own_of_res (w0 := w)
  rw [hX] at this
  exact this
theorem refRed_fit (A : Option Addr) (n c : Nat) (f : Nat → Int) (X : Int) (w : World) (h : Rd w .u8 A n f) (hc : n ≤ c) (hX : sumTo f (min n 64) % LV = X) : Calls Try.prog 10 #[.slice A n c] w (Own w X) := by
  have := refReduce_any A n c f w h hc
  rw [hX] at this
  exact this

set_option maxHeartbeats 4000000 in
theorem reduces_walk (A : Option Addr) (n c : Nat) (f : Nat → Int) (w : World) (h : Rd w .u8 A n f) (hc : n ≤ c) :
    Calls Try.prog 3 #[.slice A n c] w fun e w' => e = .returned (.bool true) ∧ Below w.heap.size w w' := by
  have f1 : Calls Try.prog 8 #[.slice A n c, .int .i64 70] w fun e w' => e = .returned (.slice A (min n 70) c) ∧ w' = w := few_any A n c 70 f w h hc
  obtain ⟨m, hm⟩ : ∃ m, m = min n 70 := ⟨_, rfl⟩
  rw [← hm] at f1
  have hm2 : m ≤ 70 := by omega
  have hm3 : m ≤ c := by omega
  have H := Lib.hid (h.short (m := m) (by omega))
  have F1 := Lib.hid f1
  obtain ⟨X, hX⟩ : ∃ X, sumTo f (min m 64) % LV = X := ⟨_, rfl⟩
  have C9 := Lib.hid (red_fit A m c f X w.drew (drew_rd H.out) (by omega) hX)
  have C10 := Lib.hid (refRed_fit A m c f X w.drew (drew_rd H.out) hm3 hX)
  have HX := Lib.hid hX
  have hes := eq_same
  clear h f1 hm hX hc
  go_enter Try.func3, Try.ntmps3
  go_upto_region 2 with (go_at_call 8; (with_reducible refine F1.out.mono ?_); rintro e w ⟨rfl, rfl⟩)
  go_region_with (first
    | (go_at_call 9; (with_reducible refine C9.out.mono ?_); rintro e w1 ⟨r1, p1, g1, rfl, _, s1, s2, s3⟩; have q1 := conv_own p1 s1 s2; have K1 := Lib.hid s1; have E1 := Lib.hid s2; have B1 := Lib.hid (arm_w (Below.refl w.heap.size w).drew s3); have D10 := Lib.hid (refRed_fit A m c f X w1 ((drew_rd H.out).below s3) hm3 HX.out); clear s1 s2 s3)
    | (go_at_call 10; (with_reducible refine C10.out.mono ?_); rintro e w1 ⟨r2, p2, g2, rfl, _, s1, s2, s3⟩; have q2 := conv_own p2 s1 s2; have K2 := Lib.hid s1; have E2 := Lib.hid s2; have B1 := Lib.hid (arm_w (Below.refl w.heap.size w).drew s3); have D9 := Lib.hid (red_fit A m c f X w1 ((drew_rd H.out).below s3) (by omega) HX.out); clear s1 s2 s3)
    | (go_at_call 10; (with_reducible refine D10.out.mono ?_); rintro e w2 ⟨r2, p2, g2, rfl, _, s1, s2, s3⟩; have q2 := conv_own p2 s1 s2; have q3 := conv_own p1 (K1.out.below s3) E1.out; have B2 := Lib.hid (arm_w B1.out s3); clear s1 s2 s3)
    | (go_at_call 9; (with_reducible refine D9.out.mono ?_); rintro e w2 ⟨r1, p1, g1, rfl, _, s1, s2, s3⟩; have q1 := conv_own p1 s1 s2; have q3 := conv_own p2 (K2.out.below s3) E2.out; have B2 := Lib.hid (arm_w B1.out s3); clear s1 s2 s3)
    | (go_at_call 11; refine (lives_any _).mono ?_; rintro e w3 ⟨rfl, s⟩; have B3 := Lib.hid (arm_w B2.out s); clear s))
  all_goals (go_wp2_with fail)
  all_goals go_ret
  all_goals exact ⟨rfl, B3.out⟩

theorem mul_fit (A B D : Option Addr) (n1 c1 n2 c2 n3 c3 : Nat) (a b d : Nat → Int) (X : Int) (w : World) (ha : Rd w .u8 A n1 a) (hb : Rd w .u8 B n2 b) (hd : Rd w .u8 D n3 d) (h1 : n1 ≤ 1000) (h2 : n2 ≤ 1000) (h3 : n3 ≤ 1000) (hX : (sumTo a (min n1 32) * sumTo b (min n2 32) + sumTo d (min n3 32)) % LV = X) :
    Calls Try.prog 12 #[.slice A n1 c1, .slice B n2 c2, .slice D n3 c3] w (Own w X) := by
  have := (mulAdd_any A B D n1 c1 n2 c2 n3 c3 a b d w ha hb hd (by omega) (by omega) (by omega)).mono fun e w' => own_of_res (w0 := w)
  rw [hX] at this
  exact this
theorem refMul_fit (A B D : Option Addr) (n1 c1 n2 c2 n3 c3 : Nat) (a b d : Nat → Int) (X : Int) (w : World) (ha : Rd w .u8 A n1 a) (hb : Rd w .u8 B n2 b) (hd : Rd w .u8 D n3 d) (k1 : n1 ≤ c1) (k2 : n2 ≤ c2) (k3 : n3 ≤ c3) (hX : (sumTo a (min n1 32) * sumTo b (min n2 32) + sumTo d (min n3 32)) % LV = X) :
    Calls Try.prog 13 #[.slice A n1 c1, .slice B n2 c2, .slice D n3 c3] w (Own w X) := by
  have := refMulAdd_any A B D n1 c1 n2 c2 n3 c3 a b d w ha hb hd k1 k2 k3
  rw [hX] at this
  exact this

set_option maxHeartbeats 4000000 in
theorem muls_walk (A B D : Option Addr) (n1 c1 n2 c2 n3 c3 : Nat) (a b d : Nat → Int) (w : World) (ha : Rd w .u8 A n1 a) (hb : Rd w .u8 B n2 b) (hd : Rd w .u8 D n3 d) (k1 : n1 ≤ c1) (k2 : n2 ≤ c2) (k3 : n3 ≤ c3) :
    Calls Try.prog 4 #[.slice A n1 c1, .slice B n2 c2, .slice D n3 c3] w fun e w' => e = .returned (.bool true) ∧ Below w.heap.size w w' := by
  have f1 : Calls Try.prog 8 #[.slice A n1 c1, .int .i64 36] w fun e w' => e = .returned (.slice A (min n1 36) c1) ∧ w' = w := few_any A n1 c1 36 a w ha k1
  have f2 : Calls Try.prog 8 #[.slice B n2 c2, .int .i64 36] w fun e w' => e = .returned (.slice B (min n2 36) c2) ∧ w' = w := few_any B n2 c2 36 b w hb k2
  have f3 : Calls Try.prog 8 #[.slice D n3 c3, .int .i64 36] w fun e w' => e = .returned (.slice D (min n3 36) c3) ∧ w' = w := few_any D n3 c3 36 d w hd k3
  obtain ⟨m1, hm1⟩ : ∃ m, m = min n1 36 := ⟨_, rfl⟩
  obtain ⟨m2, hm2⟩ : ∃ m, m = min n2 36 := ⟨_, rfl⟩
  obtain ⟨m3, hm3⟩ : ∃ m, m = min n3 36 := ⟨_, rfl⟩
  rw [← hm1] at f1
  rw [← hm2] at f2
  rw [← hm3] at f3
  have i1 : m1 ≤ 1000 := by omega
  have i2 : m2 ≤ 1000 := by omega
  have i3 : m3 ≤ 1000 := by omega
  have j1 : m1 ≤ c1 := by omega
  have j2 : m2 ≤ c2 := by omega
  have j3 : m3 ≤ c3 := by omega
  have HA := Lib.hid (ha.short (m := m1) (by omega))
  have HB := Lib.hid (hb.short (m := m2) (by omega))
  have HD := Lib.hid (hd.short (m := m3) (by omega))
  have F1 := Lib.hid f1
  have F2 := Lib.hid f2
  have F3 := Lib.hid f3
  obtain ⟨X, hX⟩ : ∃ X, (sumTo a (min m1 32) * sumTo b (min m2 32) + sumTo d (min m3 32)) % LV = X := ⟨_, rfl⟩
  have C9 := Lib.hid (mul_fit A B D m1 c1 m2 c2 m3 c3 a b d X w.drew (drew_rd HA.out) (drew_rd HB.out) (drew_rd HD.out) i1 i2 i3 hX)
  have C10 := Lib.hid (refMul_fit A B D m1 c1 m2 c2 m3 c3 a b d X w.drew (drew_rd HA.out) (drew_rd HB.out) (drew_rd HD.out) j1 j2 j3 hX)
  have HX := Lib.hid hX
  have hes := eq_same
  clear ha hb hd f1 f2 f3 hm1 hm2 hm3 hX k1 k2 k3
  go_enter Try.func4, Try.ntmps4
  go_upto_region 4 with (first | (go_at_call 8; (with_reducible refine F1.out.mono ?_); rintro e w ⟨rfl, rfl⟩) | (go_at_call 8; (with_reducible refine F2.out.mono ?_); rintro e w ⟨rfl, rfl⟩) | (go_at_call 8; (with_reducible refine F3.out.mono ?_); rintro e w ⟨rfl, rfl⟩))
  go_region_with (first
    | (go_at_call 12; (with_reducible refine C9.out.mono ?_); rintro e w1 ⟨r1, p1, g1, rfl, _, s1, s2, s3⟩; have q1 := conv_own p1 s1 s2; have K1 := Lib.hid s1; have E1 := Lib.hid s2; have B1 := Lib.hid (arm_w (Below.refl w.heap.size w).drew s3); have D10 := Lib.hid (refMul_fit A B D m1 c1 m2 c2 m3 c3 a b d X w1 ((drew_rd HA.out).below s3) ((drew_rd HB.out).below s3) ((drew_rd HD.out).below s3) j1 j2 j3 HX.out); clear s1 s2 s3)
    | (go_at_call 13; (with_reducible refine C10.out.mono ?_); rintro e w1 ⟨r2, p2, g2, rfl, _, s1, s2, s3⟩; have q2 := conv_own p2 s1 s2; have K2 := Lib.hid s1; have E2 := Lib.hid s2; have B1 := Lib.hid (arm_w (Below.refl w.heap.size w).drew s3); have D9 := Lib.hid (mul_fit A B D m1 c1 m2 c2 m3 c3 a b d X w1 ((drew_rd HA.out).below s3) ((drew_rd HB.out).below s3) ((drew_rd HD.out).below s3) i1 i2 i3 HX.out); clear s1 s2 s3)
    | (go_at_call 13; (with_reducible refine D10.out.mono ?_); rintro e w2 ⟨r2, p2, g2, rfl, _, s1, s2, s3⟩; have q2 := conv_own p2 s1 s2; have q3 := conv_own p1 (K1.out.below s3) E1.out; have B2 := Lib.hid (arm_w B1.out s3); clear s1 s2 s3)
    | (go_at_call 12; (with_reducible refine D9.out.mono ?_); rintro e w2 ⟨r1, p1, g1, rfl, _, s1, s2, s3⟩; have q1 := conv_own p1 s1 s2; have q3 := conv_own p2 (K2.out.below s3) E2.out; have B2 := Lib.hid (arm_w B1.out s3); clear s1 s2 s3)
    | (go_at_call 11; refine (lives_any _).mono ?_; rintro e w3 ⟨rfl, s⟩; have B3 := Lib.hid (arm_w B2.out s); clear s))
  all_goals (go_wp2_with fail)
  all_goals go_ret
  all_goals exact ⟨rfl, B3.out⟩

set_option maxHeartbeats 4000000 in
theorem less_walk (A : Option Addr) (n c : Nat) (f : Nat → Int) (w : World) (h : Rd w .u8 A n f) (hc : n ≤ c) :
    Calls Try.prog 7 #[.slice A n c] w fun e w' => e = .returned (.bool true) ∧ Below w.heap.size w w' := by
  have f1 : Calls Try.prog 8 #[.slice A n c, .int .i64 64] w fun e w' => e = .returned (.slice A (min n 64) c) ∧ w' = w := few_any A n c 64 f w h hc
  obtain ⟨m, hm⟩ : ∃ m, m = min n 64 := ⟨_, rfl⟩
  rw [← hm] at f1
  have hm2 : m ≤ 1000 := by omega
  have H := Lib.hid (h.short (m := m) (by omega))
  have F1 := Lib.hid f1
  obtain ⟨X, hX⟩ : ∃ X, sumTo f (min m 64) % LV = X := ⟨_, rfl⟩
  have C9 := Lib.hid (red_fit A m c f X w H.out hm2 hX)
  have HXL : Hid (decide (X < LV) = true) := Lib.hid (by
    have := Int.emod_lt_of_pos (sumTo f (min m 64)) LV_pos.1
    rw [hX] at this
    exact decide_eq_true this)
  have HXM : Hid ((X * 1 + LV) % LV = X) := Lib.hid (by
    rw [Int.mul_one, Int.add_emod_right, ← hX, Int.emod_emod])
  have hes := eq_same
  clear h f1 hm hc hX
  go_enter Try.func7, Try.ntmps7
  go_upto_region 3 with (first
    | (go_at_call 8; (with_reducible refine F1.out.mono ?_); rintro e w ⟨rfl, rfl⟩)
    | (go_at_call 9; (with_reducible refine C9.out.mono ?_); rintro e w3 ⟨r3, p3, g3, rfl, _, s1, s2, s3⟩; have B3 := Lib.hid s3; have K3 := Lib.hid s1; have E3 := Lib.hid s2; have C17 := Lib.hid (l_any w3); clear s1 s2 s3)
    | (go_at_call 17; (with_reducible refine C17.out.mono ?_); rintro e w4 ⟨r4, g4, rfl, _, s1, s2, s3, s4⟩; have B4 := Lib.hid (arm_w B3.out s4); have K4 := Lib.hid (K3.out.below s4); have C16 := Lib.hid (bytes_fit (some ⟨r4, 0, none⟩) 32 g4 LV w4 (row_rdn s1 s2) s3); clear s1 s2 s3 s4)
    | (go_at_call 16; (with_reducible refine C16.out.mono ?_); rintro e w5 ⟨r5, p5, g5, rfl, _, s1, s2, s3⟩; have B5 := Lib.hid (arm_w B4.out s3); have K5 := Lib.hid (K4.out.below s3); have L5 := Lib.hid s1; have EL := Lib.hid s2; clear s1 s2 s3))
  have C12 := Lib.hid (mul32 (some ⟨r3, 0, none⟩) (some ⟨w5.heap.size, 0, none⟩) (some ⟨r5, 0, none⟩) 32 p3 1 1 32 p5 g3 _ g5 X (w5.alloc (.cells #[.int .u8 1] 5)) (rd_alloc K5.out _) (one_new w5) (rd_alloc L5.out _) (by omega) (by omega) (by omega) (by rw [E3.out, one_sum, EL.out, HXM.out]))
  go_wp2_with (first
    | (go_at_call 12; (with_reducible refine C12.out.mono ?_); rintro e w6 ⟨r6, p6, g6, rfl, _, s1, s2, s3⟩; have B6 := Lib.hid (arm_w (arm_al B5.out _) s3); have K6 := Lib.hid ((rd_alloc K5.out _).below s3); have M6 := Lib.hid s1; have EM := Lib.hid s2; have C19 := Lib.hid (digits_any (some ⟨r3, 0, none⟩) 32 p3 g3 w6 K6.out (by omega)); clear s1 s2 s3)
    | (go_at_call 19; (with_reducible refine C19.out.mono ?_); rintro e w7 ⟨A7, c7, rfl, s1, s2⟩; have B7 := Lib.hid (arm_w B6.out s2); have K7 := Lib.hid (K6.out.below s2); have M7 := Lib.hid (M6.out.below s2); have D7 := Lib.hid s1; have E17 := Lib.hid (l_any w7); clear s1 s2)
    | (go_at_call 17; (with_reducible refine E17.out.mono ?_); rintro e w8 ⟨r8, g8, rfl, _, s1, s2, s3, s4⟩; have B8 := Lib.hid (arm_w B7.out s4); have x1 := conv_own p3 (K7.out.below s4) E3.out; have x2 := conv_own p6 (M7.out.below s4) EM.out; have y := less_any A7 (some ⟨r8, 0, none⟩) 32 c7 32 32 g3 g8 w8 (D7.out.below s4) (row_rdn s1 s2) (by omega) (by omega); rw [E3.out, s3, HXL.out] at y; have C18 := Lib.hid y; clear y s1 s2 s3 s4)
    | (go_at_call 18; (with_reducible refine C18.out.mono ?_); rintro e w ⟨rfl, rfl⟩)
    | (go_at_call 11; refine (lives_any _).mono ?_; rintro e w9 ⟨rfl, s⟩; have B9 := Lib.hid (arm_w B8.out s); clear s))
  go_ret
  exact ⟨rfl, B9.out⟩
end Go.Proofs.Ytbgcdfhnnmopdaa
