/- The answers of the document: Reduce, MulAdd, Is: the walks. -/
import Derived.Test.YtbgcdfhnnmopdaaSC
namespace Go.Proofs.Ytbgcdfhnnmopdaa
open Go.RowKit

theorem mod_fit (A B : Option Addr) (n c cB : Nat) (a m : Nat → Int) (X : Int) (w : World) (ha : Rd w .i64 A n a) (hb : Rd w .i64 B 32 m) (hn : n ≤ 1000000) (hm : sumTo m 32 = LV) (hX : sumTo a n % LV = X) :
    Calls Try.prog 21 #[.slice A n c, .slice B 32 cB] w (ModP w X) := by
  have := mod_any A B n c cB a m w ha hb hn (by rw [hm]; exact LV_pos.1)
  rw [hm, hX] at this
  exact this
theorem bytes_fit (A : Option Addr) (c : Nat) (g : Nat → Int) (X : Int) (w : World) (h : Rd w .i64 A 32 g) (hX : sumTo g 32 = X) : Calls Try.prog 16 #[.slice A 32 c] w (Own w X) := by
  have := bytes_any A 32 c g w h (by omega)
  rw [sumTo_congr (g := g) (fun i hi => if_pos hi), hX] at this
  exact this

set_option maxHeartbeats 1000000 in
theorem refReduce_any (A : Option Addr) (n c : Nat) (f : Nat → Int) (w : World) (h : Rd w .u8 A n f) (hc : n ≤ c) :
    Calls Try.prog 10 #[.slice A n c] w (Own w (sumTo f (min n 64) % LV)) := by
  have c1 : Calls Try.prog 22 #[.slice A n c, .int .i64 64] w (Digs w (min n 64) f) := cut_any A n c 64 f w h hc (by omega)
  obtain ⟨m, hm⟩ : ∃ m, m = min n 64 := ⟨_, rfl⟩
  rw [← hm] at c1 ⊢
  have hm2 : m ≤ 64 := by omega
  have C1 := Lib.hid c1
  clear c1 hm h
  go_enter Try.func10, Try.ntmps10
  go_wp2_with (first
    | (go_at_call 22; (with_reducible refine C1.out.mono ?_); rintro e w1 ⟨A1, c1, rfl, s1, s2⟩; have K1 := Lib.hid s1; have B1 := Lib.hid s2; have C2 := Lib.hid (l_any w1); clear s1 s2)
    | (go_at_call 17; (with_reducible refine C2.out.mono ?_); rintro e w2 ⟨r2, g2, rfl, _, s1, s2, s3, s4⟩; have C3 := Lib.hid (mod_fit A1 (some ⟨r2, 0, none⟩) m c1 32 f g2 (sumTo f m % LV) w2 (K1.out.below s4) (row_rdn s1 s2) (by omega) s3 rfl); have B2 := Lib.hid (arm_w B1.out s4); clear s1 s2 s3 s4)
    | (go_at_call 21; (with_reducible refine C3.out.mono ?_); rintro e w3 ⟨r3, g3, rfl, _, s1, s2, s3⟩; have C4 := Lib.hid (bytes_fit (some ⟨r3, 0, none⟩) 33 g3 _ w3 s1 s2); have B3 := Lib.hid (arm_w B2.out s3); clear s1 s2 s3)
    | (go_at_call 16; (with_reducible refine C4.out.mono ?_); rintro e w4 ⟨r4, p4, g4, rfl, s0, s1, s2, s3⟩; have S0 := Lib.hid s0; have S1 := Lib.hid s1; have S2 := Lib.hid s2; have B4 := Lib.hid (arm_w B3.out s3); clear s0 s1 s2 s3))
  go_ret
  exact ⟨r4, p4, g4, rfl, Nat.le_trans B3.out.size S0.out, S1.out, S2.out, B4.out⟩

set_option maxHeartbeats 1000000 in
theorem refMulAdd_any (A B D : Option Addr) (n1 c1 n2 c2 n3 c3 : Nat) (a b d : Nat → Int) (w : World) (ha : Rd w .u8 A n1 a) (hb : Rd w .u8 B n2 b) (hd : Rd w .u8 D n3 d) (k1 : n1 ≤ c1) (k2 : n2 ≤ c2) (k3 : n3 ≤ c3) :
    Calls Try.prog 13 #[.slice A n1 c1, .slice B n2 c2, .slice D n3 c3] w (Own w ((sumTo a (min n1 32) * sumTo b (min n2 32) + sumTo d (min n3 32)) % LV)) := by
  have x1 : ∀ w, Rd w .u8 A n1 a → Calls Try.prog 22 #[.slice A n1 c1, .int .i64 32] w (Digs w (min n1 32) a) := fun w h => cut_any A n1 c1 32 a w h k1 (by omega)
  have x2 : ∀ w, Rd w .u8 B n2 b → Calls Try.prog 22 #[.slice B n2 c2, .int .i64 32] w (Digs w (min n2 32) b) := fun w h => cut_any B n2 c2 32 b w h k2 (by omega)
  have x3 : ∀ w, Rd w .u8 D n3 d → Calls Try.prog 22 #[.slice D n3 c3, .int .i64 32] w (Digs w (min n3 32) d) := fun w h => cut_any D n3 c3 32 d w h k3 (by omega)
  obtain ⟨m1, hm1⟩ : ∃ m, m = min n1 32 := ⟨_, rfl⟩
  obtain ⟨m2, hm2⟩ : ∃ m, m = min n2 32 := ⟨_, rfl⟩
  obtain ⟨m3, hm3⟩ : ∃ m, m = min n3 32 := ⟨_, rfl⟩
  rw [← hm1] at x1 ⊢
  rw [← hm2] at x2 ⊢
  rw [← hm3] at x3 ⊢
  have l1 : m1 ≤ 32 := by omega
  have l2 : m2 ≤ 32 := by omega
  have l3 : m3 ≤ 32 := by omega
  have C1 := Lib.hid (x1 w ha)
  have X2 := Lib.hid x2
  have X3 := Lib.hid x3
  have HB := Lib.hid hb
  have HD := Lib.hid hd
  clear ha hb hd hm1 hm2 hm3 x1 x2 x3 k1 k2 k3
  go_enter Try.func13, Try.ntmps13
  go_wp2_with (first
    | (go_at_call 22; (with_reducible refine C1.out.mono ?_); rintro e w1 ⟨A1, q1, rfl, s1, s2⟩; have K1 := Lib.hid s1; have B1 := Lib.hid s2; have C2 := Lib.hid (X2.out w1 (HB.out.below s2)); clear s1 s2)
    | (go_at_call 22; (with_reducible refine C2.out.mono ?_); rintro e w2 ⟨A2, q2, rfl, s1, s2⟩; have B2 := Lib.hid (arm_w B1.out s2); have C3 := Lib.hid (times_any A1 A2 m1 q1 m2 q2 a b w2 (K1.out.below s2) s1 (by omega) (by omega)); clear s1 s2)
    | (go_at_call 24; (with_reducible refine C3.out.mono ?_); rintro e w3 ⟨r3, g3, rfl, _, s1, s2, s3, s4⟩; have B3 := Lib.hid (arm_w B2.out s4); have K3 := Lib.hid (row_rdn s1 s2); have E3 := Lib.hid s3; have C4 := Lib.hid (X3.out w3 (HD.out.below B3.out)); clear s1 s2 s3 s4)
    | (go_at_call 22; (with_reducible refine C4.out.mono ?_); rintro e w4 ⟨A4, q4, rfl, s1, s2⟩; have B4 := Lib.hid (arm_w B3.out s2); have C5 := Lib.hid (plus_any (some ⟨r3, 0, none⟩) A4 (m1 + m2 + 1) (m1 + m2 + 1) m3 q4 g3 d w4 (K3.out.below s2) s1 (by omega) (by omega)); clear s1 s2)
    | (go_at_call 23; (with_reducible refine C5.out.mono ?_); rintro e w5 ⟨r5, g5, rfl, _, s1, s2, s3, s4⟩; have B5 := Lib.hid (arm_w B4.out s4); have K5 := Lib.hid (row_rdn s1 s2); rw [E3.out] at s3; have E5 := Lib.hid s3; have C6 := Lib.hid (l_any w5); clear s1 s2 s3 s4)
    | (go_at_call 17; (with_reducible refine C6.out.mono ?_); rintro e w6 ⟨r6, g6, rfl, _, s1, s2, s3, s4⟩; have B6 := Lib.hid (arm_w B5.out s4); have C7 := Lib.hid (mod_fit (some ⟨r5, 0, none⟩) (some ⟨r6, 0, none⟩) (max (m1 + m2 + 1) m3 + 1) (max (m1 + m2 + 1) m3 + 1) 32 g5 g6 ((sumTo a m1 * sumTo b m2 + sumTo d m3) % LV) w6 (K5.out.below s4) (row_rdn s1 s2) (by omega) s3 (by rw [E5.out])); clear s1 s2 s3 s4)
    | (go_at_call 21; (with_reducible refine C7.out.mono ?_); rintro e w7 ⟨r7, g7, rfl, _, s1, s2, s3⟩; have C8 := Lib.hid (bytes_fit (some ⟨r7, 0, none⟩) 33 g7 _ w7 s1 s2); have B7 := Lib.hid (arm_w B6.out s3); clear s1 s2 s3)
    | (go_at_call 16; (with_reducible refine C8.out.mono ?_); rintro e w8 ⟨r8, p8, g8, rfl, s0, s1, s2, s3⟩; have S0 := Lib.hid s0; have S1 := Lib.hid s1; have S2 := Lib.hid s2; have B8 := Lib.hid (arm_w B7.out s3); clear s0 s1 s2 s3))
  go_ret
  exact ⟨r8, p8, g8, rfl, Nat.le_trans B7.out.size S0.out, S1.out, S2.out, B8.out⟩

set_option maxHeartbeats 1000000 in
theorem refIs_any (A : Option Addr) (n c : Nat) (f : Nat → Int) (w : World) (h : Rd w .u8 A n f) :
    Calls Try.prog 15 #[.slice A n c] w fun e w' => e = .returned (.bool (decide (n = 32 ∧ sumTo f 32 < LV))) ∧ Below w.heap.size w w' := by
  by_cases hn32 : n = 32
  · subst hn32
    have C1 := Lib.hid (digits_any A 32 c f w h (by omega))
    have HE : Hid (decide (sumTo f 32 < LV) = decide ((32 : Nat) = 32 ∧ sumTo f 32 < LV)) := Lib.hid (by simp)
    clear h
    go_enter Try.func15, Try.ntmps15
    go_wp2_with (first
      | (go_at_call 19; (with_reducible refine C1.out.mono ?_); rintro e w1 ⟨A1, q1, rfl, s1, s2⟩; have K1 := Lib.hid s1; have B1 := Lib.hid s2; have C2 := Lib.hid (l_any w1); clear s1 s2)
      | (go_at_call 17; (with_reducible refine C2.out.mono ?_); rintro e w2 ⟨r2, g2, rfl, _, s1, s2, s3, s4⟩; have B2 := Lib.hid (arm_w B1.out s4); have C3 := Lib.hid (less_any A1 (some ⟨r2, 0, none⟩) 32 q1 32 32 f g2 w2 (K1.out.below s4) (row_rdn s1 s2) (by omega) (by omega)); have E2 := Lib.hid s3; clear s1 s2 s3 s4)
      | (go_at_call 18; (with_reducible refine C3.out.mono ?_); rintro e w ⟨rfl, rfl⟩))
    go_ret
    exact ⟨ret_bool (by rw [E2.out]; exact HE.out), B2.out⟩
  · have k3 : ((n : Int) == 32) = false := by simp only [beq_eq_false_iff_ne, ne_eq]; omega
    have k1 : ¬ (n : Int) = 32 := by omega
    have k2 : decide (n = 32 ∧ sumTo f 32 < LV) = false := by simp [hn32]
    rw [k2]
    clear h k2 hn32
    go_enter Try.func15, Try.ntmps15
    go_wp2_with fail
    go_ret
    exact ⟨rfl, Below.refl _ _⟩
end Go.Proofs.Ytbgcdfhnnmopdaa
