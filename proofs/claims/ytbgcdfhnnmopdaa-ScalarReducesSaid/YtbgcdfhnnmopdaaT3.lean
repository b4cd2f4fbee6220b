/- ScalarRing: the walk. -/
import Derived.Test.YtbgcdfhnnmopdaaT2
import Derived.Deep.Cut
import Derived.Deep.RegionWith
namespace Go.Proofs.Ytbgcdfhnnmopdaa
open Go.RowKit

theorem rd_nil (w : World) : Rd w .u8 none 0 (fun _ => 0) := ⟨fun h => absurd h (Nat.lt_irrefl 0), fun _ => ⟨Int.le_refl 0, (show (0 : Int) ≤ 255 by decide)⟩⟩
theorem mul32 (A B D : Option Addr) (n1 c1 n2 c2 n3 c3 : Nat) (a b d : Nat → Int) (X : Int) (w : World) (ha : Rd w .u8 A n1 a) (hb : Rd w .u8 B n2 b) (hd : Rd w .u8 D n3 d) (h1 : n1 ≤ 32) (h2 : n2 ≤ 32) (h3 : n3 ≤ 32) (hX : (sumTo a n1 * sumTo b n2 + sumTo d n3) % LV = X) :
    Calls Try.prog 12 #[.slice A n1 c1, .slice B n2 c2, .slice D n3 c3] w (Own w X) := by
  refine (mulAdd_any A B D n1 c1 n2 c2 n3 c3 a b d w ha hb hd (by omega) (by omega) (by omega)).mono fun e w' h => ?_
  rw [show min n1 32 = n1 by omega, show min n2 32 = n2 by omega, show min n3 32 = n3 by omega, hX] at h
  exact own_of_res h
theorem red32 (A : Option Addr) (n1 c1 : Nat) (a : Nat → Int) (X : Int) (w : World) (ha : Rd w .u8 A n1 a) (h1 : n1 ≤ 32) (hX : sumTo a n1 % LV = X) : Calls Try.prog 9 #[.slice A n1 c1] w (Own w X) := by
  refine (reduce_any A n1 c1 a w ha (by omega)).mono fun e w' h => ?_
  rw [show min n1 64 = n1 by omega, hX] at h
  exact own_of_res h
theorem nil_sum : sumTo (fun _ => 0) 0 = 0 := rfl
theorem one_new (w : World) : Rd (w.alloc (.cells #[.int .u8 1] 5)) .u8 (some ⟨w.heap.size, 0, none⟩) 1 (fun i => [(1 : Int)].getD i 0) := rd_new w 5 [1] (by decide)
theorem one_sum : sumTo (fun i => [(1 : Int)].getD i 0) 1 = 1 := by decide

theorem em1 (x y : Int) : (x % LV * y) % LV = (x * y) % LV := by rw [Int.mul_emod, Int.emod_emod, ← Int.mul_emod]
theorem em2 (x y : Int) : (x * (y % LV)) % LV = (x * y) % LV := by rw [Int.mul_emod, Int.emod_emod, ← Int.mul_emod]
theorem em3 (x y : Int) : (x + y % LV) % LV = (x + y) % LV := by rw [Int.add_emod, Int.emod_emod, ← Int.add_emod]

set_option maxRecDepth 100000 in
set_option maxHeartbeats 4000000 in
theorem ring_walk (A B D : Option Addr) (n1 c1 n2 c2 n3 c3 : Nat) (a b d : Nat → Int) (w : World) (ha : Rd w .u8 A n1 a) (hb : Rd w .u8 B n2 b) (hd : Rd w .u8 D n3 d) (k1 : n1 ≤ c1) (k2 : n2 ≤ c2) (k3 : n3 ≤ c3) :
    Calls Try.prog 6 #[.slice A n1 c1, .slice B n2 c2, .slice D n3 c3] w fun e w' => e = .returned (.bool true) ∧ Below w.heap.size w w' := by
  obtain ⟨m1, hm1⟩ : ∃ m, m = min n1 32 := ⟨_, rfl⟩
  obtain ⟨m2, hm2⟩ : ∃ m, m = min n2 32 := ⟨_, rfl⟩
  obtain ⟨m3, hm3⟩ : ∃ m, m = min n3 32 := ⟨_, rfl⟩
  have f1 := few_any A n1 c1 32 a w ha k1
  have f2 := few_any B n2 c2 32 b w hb k2
  have f3 := few_any D n3 c3 32 d w hd k3
  rw [← hm1] at f1
  rw [← hm2] at f2
  rw [← hm3] at f3
  have KA := Lib.hid (ha.short (m := m1) (by omega))
  have KB := Lib.hid (hb.short (m := m2) (by omega))
  have KD := Lib.hid (hd.short (m := m3) (by omega))
  have F1 := Lib.hid f1
  have F2 := Lib.hid f2
  have F3 := Lib.hid f3
  have l1 : m1 ≤ 32 := by omega
  have l2 : m2 ≤ 32 := by omega
  have l3 : m3 ≤ 32 := by omega
  clear ha hb hd k1 k2 k3 hm1 hm2 hm3 f1 f2 f3
  obtain ⟨SA, eA⟩ : ∃ S, sumTo a m1 = S := ⟨_, rfl⟩
  obtain ⟨SB, eB⟩ : ∃ S, sumTo b m2 = S := ⟨_, rfl⟩
  obtain ⟨SD, eD⟩ : ∃ S, sumTo d m3 = S := ⟨_, rfl⟩
  have EA := Lib.hid eA
  have EB := Lib.hid eB
  have ED := Lib.hid eD
  clear eA eB eD
  go_enter Try.func6, Try.ntmps6
  go_upto_region 5 with (first | (go_at_call_of 8 A; refine F1.out.mono ?_; rintro e w ⟨rfl, rfl⟩) | (go_at_call_of 8 B; refine F2.out.mono ?_; rintro e w ⟨rfl, rfl⟩) | (go_at_call_of 8 D; refine F3.out.mono ?_; rintro e w ⟨rfl, rfl⟩))
  have KO := Lib.hid (one_new w)
  have BB := Lib.hid (arm_al (Below.refl w.heap.size w) (.cells #[.int .u8 1] 5))
  have KA := Lib.hid (rd_alloc KA.out (.cells #[.int .u8 1] 5))
  have KB := Lib.hid (rd_alloc KB.out (.cells #[.int .u8 1] 5))
  have KD := Lib.hid (rd_alloc KD.out (.cells #[.int .u8 1] 5))
  generalize World.alloc w (.cells #[.int .u8 1] 5) = W at *
  go_upto_region 6 with (go_at_call 12; refine (mul32 _ _ _ m1 _ m2 _ 0 _ _ _ _ (SA * SB % LV) _ KA.out KB.out (rd_nil _) l1 l2 (by omega) (by rw [EA.out, EB.out, nil_sum, Int.add_zero])).mono ?_; rintro e w5 ⟨r5, p5, g5, rfl, _, s1, s2, s3⟩; replace KA := Lib.hid (KA.out.below s3); replace KB := Lib.hid (KB.out.below s3); replace KD := Lib.hid (KD.out.below s3); replace KO := Lib.hid (KO.out.below s3); replace BB := Lib.hid (arm_w BB.out s3); have K5 := Lib.hid s1; have E5 := Lib.hid s2; clear s1 s2 s3)
  go_upto_region 7 with (go_at_call 12; refine (mul32 _ _ _ m2 _ m1 _ 0 _ _ _ _ (SA * SB % LV) _ KB.out KA.out (rd_nil _) l2 l1 (by omega) (by rw [EB.out, EA.out, nil_sum, Int.add_zero, Int.mul_comm])).mono ?_; rintro e w6 ⟨r6, p6, g6, rfl, _, s1, s2, s3⟩; replace KA := Lib.hid (KA.out.below s3); replace KB := Lib.hid (KB.out.below s3); replace KD := Lib.hid (KD.out.below s3); replace KO := Lib.hid (KO.out.below s3); replace K5 := Lib.hid (K5.out.below s3); replace BB := Lib.hid (arm_w BB.out s3); have K6 := Lib.hid s1; have E6 := Lib.hid s2; clear s1 s2 s3)
  go_upto_region 8 with (go_at_call 12; refine (mul32 _ _ _ m1 _ 1 _ m2 _ _ _ _ ((SA + SB) % LV) _ KA.out KO.out KB.out l1 (by omega) l2 (by rw [EA.out, one_sum, EB.out, Int.mul_one])).mono ?_; rintro e w7 ⟨r7, p7, g7, rfl, _, s1, s2, s3⟩; replace KA := Lib.hid (KA.out.below s3); replace KB := Lib.hid (KB.out.below s3); replace KD := Lib.hid (KD.out.below s3); replace KO := Lib.hid (KO.out.below s3); replace K5 := Lib.hid (K5.out.below s3); replace K6 := Lib.hid (K6.out.below s3); replace BB := Lib.hid (arm_w BB.out s3); have K7 := Lib.hid s1; have E7 := Lib.hid s2; clear s1 s2 s3)
  go_upto_region 9 with (go_at_call 12; refine (mul32 _ _ _ 32 _ m3 _ 0 _ _ _ _ ((SA + SB) * SD % LV) _ K7.out KD.out (rd_nil _) (by omega) l3 (by omega) (by rw [E7.out, ED.out, nil_sum, Int.add_zero, em1])).mono ?_; rintro e w8 ⟨r8, p8, g8, rfl, _, s1, s2, s3⟩; replace KA := Lib.hid (KA.out.below s3); replace KB := Lib.hid (KB.out.below s3); replace KD := Lib.hid (KD.out.below s3); replace KO := Lib.hid (KO.out.below s3); replace K5 := Lib.hid (K5.out.below s3); replace K6 := Lib.hid (K6.out.below s3); replace K7 := Lib.hid (K7.out.below s3); replace BB := Lib.hid (arm_w BB.out s3); have K8 := Lib.hid s1; have E8 := Lib.hid s2; clear s1 s2 s3)
  go_upto_region 10 with (first | (go_at_call_of 12 A; refine (mul32 _ _ _ m1 _ m3 _ 32 _ _ _ _ ((SA + SB) * SD % LV) _ KA.out KD.out K9.out l1 l3 (by omega) (by rw [EA.out, ED.out, E9.out, em3, ← Int.add_mul])).mono ?_; rintro e w10 ⟨r10, p10, g10, rfl, _, s1, s2, s3⟩; replace KA := Lib.hid (KA.out.below s3); replace KB := Lib.hid (KB.out.below s3); replace KD := Lib.hid (KD.out.below s3); replace KO := Lib.hid (KO.out.below s3); replace K5 := Lib.hid (K5.out.below s3); replace K6 := Lib.hid (K6.out.below s3); replace K7 := Lib.hid (K7.out.below s3); replace K8 := Lib.hid (K8.out.below s3); replace K9 := Lib.hid (K9.out.below s3); replace BB := Lib.hid (arm_w BB.out s3); have K10 := Lib.hid s1; have E10 := Lib.hid s2; clear s1 s2 s3) | (go_at_call 12; refine (mul32 _ _ _ m2 _ m3 _ 0 _ _ _ _ (SB * SD % LV) _ KB.out KD.out (rd_nil _) l2 l3 (by omega) (by rw [EB.out, ED.out, nil_sum, Int.add_zero])).mono ?_; rintro e w9 ⟨r9, p9, g9, rfl, _, s1, s2, s3⟩; replace KA := Lib.hid (KA.out.below s3); replace KB := Lib.hid (KB.out.below s3); replace KD := Lib.hid (KD.out.below s3); replace KO := Lib.hid (KO.out.below s3); replace K5 := Lib.hid (K5.out.below s3); replace K6 := Lib.hid (K6.out.below s3); replace K7 := Lib.hid (K7.out.below s3); replace K8 := Lib.hid (K8.out.below s3); replace BB := Lib.hid (arm_w BB.out s3); have K9 := Lib.hid s1; have E9 := Lib.hid s2; clear s1 s2 s3))
  go_upto_region 11 with (go_at_call 12; refine (mul32 _ _ _ 32 _ m3 _ 0 _ _ _ _ (SA * SB * SD % LV) _ K5.out KD.out (rd_nil _) (by omega) l3 (by omega) (by rw [E5.out, ED.out, nil_sum, Int.add_zero, em1])).mono ?_; rintro e w11 ⟨r11, p11, g11, rfl, _, s1, s2, s3⟩; replace KA := Lib.hid (KA.out.below s3); replace KB := Lib.hid (KB.out.below s3); replace KD := Lib.hid (KD.out.below s3); replace KO := Lib.hid (KO.out.below s3); replace K5 := Lib.hid (K5.out.below s3); replace K6 := Lib.hid (K6.out.below s3); replace K7 := Lib.hid (K7.out.below s3); replace K8 := Lib.hid (K8.out.below s3); replace K9 := Lib.hid (K9.out.below s3); replace K10 := Lib.hid (K10.out.below s3); replace BB := Lib.hid (arm_w BB.out s3); have K11 := Lib.hid s1; have E11 := Lib.hid s2; clear s1 s2 s3)
  go_upto_region 12 with (first | (go_at_call_of 12 A; refine (mul32 _ _ _ m1 _ 32 _ 0 _ _ _ _ (SA * SB * SD % LV) _ KA.out K12.out (rd_nil _) l1 (by omega) (by omega) (by rw [EA.out, E12.out, nil_sum, Int.add_zero, em2, ← Int.mul_assoc])).mono ?_; rintro e w13 ⟨r13, p13, g13, rfl, _, s1, s2, s3⟩; replace KA := Lib.hid (KA.out.below s3); replace KB := Lib.hid (KB.out.below s3); replace KD := Lib.hid (KD.out.below s3); replace KO := Lib.hid (KO.out.below s3); replace K5 := Lib.hid (K5.out.below s3); replace K6 := Lib.hid (K6.out.below s3); replace K7 := Lib.hid (K7.out.below s3); replace K8 := Lib.hid (K8.out.below s3); replace K9 := Lib.hid (K9.out.below s3); replace K10 := Lib.hid (K10.out.below s3); replace K11 := Lib.hid (K11.out.below s3); replace K12 := Lib.hid (K12.out.below s3); replace BB := Lib.hid (arm_w BB.out s3); have K13 := Lib.hid s1; have E13 := Lib.hid s2; clear s1 s2 s3) | (go_at_call 12; refine (mul32 _ _ _ m2 _ m3 _ 0 _ _ _ _ (SB * SD % LV) _ KB.out KD.out (rd_nil _) l2 l3 (by omega) (by rw [EB.out, ED.out, nil_sum, Int.add_zero])).mono ?_; rintro e w12 ⟨r12, p12, g12, rfl, _, s1, s2, s3⟩; replace KA := Lib.hid (KA.out.below s3); replace KB := Lib.hid (KB.out.below s3); replace KD := Lib.hid (KD.out.below s3); replace KO := Lib.hid (KO.out.below s3); replace K5 := Lib.hid (K5.out.below s3); replace K6 := Lib.hid (K6.out.below s3); replace K7 := Lib.hid (K7.out.below s3); replace K8 := Lib.hid (K8.out.below s3); replace K9 := Lib.hid (K9.out.below s3); replace K10 := Lib.hid (K10.out.below s3); replace K11 := Lib.hid (K11.out.below s3); replace BB := Lib.hid (arm_w BB.out s3); have K12 := Lib.hid s1; have E12 := Lib.hid s2; clear s1 s2 s3))
  clear K7 K9 K12 E7 E9 E12 KB KD F1 F2 F3
  have hes := eq_same
  have HR9 := Lib.hid (show sumTo a m1 % LV = SA % LV by rw [EA.out])
  have HR12 := Lib.hid (show (sumTo a m1 * sumTo (fun i => [(1 : Int)].getD i 0) 1 + sumTo (fun _ => 0) 0) % LV = SA % LV by rw [EA.out, one_sum, nil_sum, Int.mul_one, Int.add_zero])
  have l00 : 0 ≤ 32 := by omega
  have l01 : 1 ≤ 32 := by omega
  replace K5 := Lib.hid (drew_rd K5.out)
  replace K6 := Lib.hid (drew_rd K6.out)
  replace K8 := Lib.hid (drew_rd K8.out)
  replace K10 := Lib.hid (drew_rd K10.out)
  replace K11 := Lib.hid (drew_rd K11.out)
  replace K13 := Lib.hid (drew_rd K13.out)
  replace KA := Lib.hid (drew_rd KA.out)
  replace KO := Lib.hid (drew_rd KO.out)
  replace BB := Lib.hid BB.out.drew
  go_region_held (fun w' => (convert 22 9 (.slice (some ⟨r5, 0, none⟩) 32 p5)).run Try.prog w' = .ok (.string (num (SA * SB % LV))) w' ∧ (convert 22 9 (.slice (some ⟨r6, 0, none⟩) 32 p6)).run Try.prog w' = .ok (.string (num (SA * SB % LV))) w' ∧ (convert 22 9 (.slice (some ⟨r8, 0, none⟩) 32 p8)).run Try.prog w' = .ok (.string (num ((SA + SB) * SD % LV))) w' ∧ (convert 22 9 (.slice (some ⟨r10, 0, none⟩) 32 p10)).run Try.prog w' = .ok (.string (num ((SA + SB) * SD % LV))) w' ∧ (convert 22 9 (.slice (some ⟨r11, 0, none⟩) 32 p11)).run Try.prog w' = .ok (.string (num (SA * SB * SD % LV))) w' ∧ (convert 22 9 (.slice (some ⟨r13, 0, none⟩) 32 p13)).run Try.prog w' = .ok (.string (num (SA * SB * SD % LV))) w') (first | exact q.out | exact ⟨conv_own _ (K5.out) E5.out, conv_own _ (K6.out) E6.out, conv_own _ (K8.out) E8.out, conv_own _ (K10.out) E10.out, conv_own _ (K11.out) E11.out, conv_own _ (K13.out) E13.out⟩) ((first | (go_at_call 9; refine (red32 _ m1 _ _ (SA % LV) _ KA.out l1 HR9.out).mono ?_; rintro e w14 ⟨r14, p14, g14, rfl, _, s1, s2, s3⟩; replace K5 := Lib.hid (K5.out.below s3); replace K6 := Lib.hid (K6.out.below s3); replace K8 := Lib.hid (K8.out.below s3); replace K10 := Lib.hid (K10.out.below s3); replace K11 := Lib.hid (K11.out.below s3); replace K13 := Lib.hid (K13.out.below s3); replace KA := Lib.hid (KA.out.below s3); replace KO := Lib.hid (KO.out.below s3); replace BB := Lib.hid (arm_w BB.out s3); have K14 := Lib.hid s1; have E14 := Lib.hid s2; have q1 := conv_own p14 s1 s2; have q : Hid ((convert 22 9 (.slice (some ⟨r5, 0, none⟩) 32 p5)).run Try.prog w14 = .ok (.string (num (SA * SB % LV))) w14 ∧ (convert 22 9 (.slice (some ⟨r6, 0, none⟩) 32 p6)).run Try.prog w14 = .ok (.string (num (SA * SB % LV))) w14 ∧ (convert 22 9 (.slice (some ⟨r8, 0, none⟩) 32 p8)).run Try.prog w14 = .ok (.string (num ((SA + SB) * SD % LV))) w14 ∧ (convert 22 9 (.slice (some ⟨r10, 0, none⟩) 32 p10)).run Try.prog w14 = .ok (.string (num ((SA + SB) * SD % LV))) w14 ∧ (convert 22 9 (.slice (some ⟨r11, 0, none⟩) 32 p11)).run Try.prog w14 = .ok (.string (num (SA * SB * SD % LV))) w14 ∧ (convert 22 9 (.slice (some ⟨r13, 0, none⟩) 32 p13)).run Try.prog w14 = .ok (.string (num (SA * SB * SD % LV))) w14) := Lib.hid ⟨conv_own _ (K5.out) E5.out, conv_own _ (K6.out) E6.out, conv_own _ (K8.out) E8.out, conv_own _ (K10.out) E10.out, conv_own _ (K11.out) E11.out, conv_own _ (K13.out) E13.out⟩; clear s1 s2 s3) | (go_at_call 12; refine (mul32 _ _ _ m1 _ 1 _ 0 _ _ _ _ (SA % LV) _ KA.out KO.out (rd_nil _) l1 l01 l00 HR12.out).mono ?_; rintro e w15 ⟨r15, p15, g15, rfl, _, s1, s2, s3⟩; replace K5 := Lib.hid (K5.out.below s3); replace K6 := Lib.hid (K6.out.below s3); replace K8 := Lib.hid (K8.out.below s3); replace K10 := Lib.hid (K10.out.below s3); replace K11 := Lib.hid (K11.out.below s3); replace K13 := Lib.hid (K13.out.below s3); replace KA := Lib.hid (KA.out.below s3); replace KO := Lib.hid (KO.out.below s3); replace BB := Lib.hid (arm_w BB.out s3); have q1 := conv_own p14 (K14.out.below s3) E14.out; have q2 := conv_own p15 s1 s2; have q : Hid ((convert 22 9 (.slice (some ⟨r5, 0, none⟩) 32 p5)).run Try.prog w15 = .ok (.string (num (SA * SB % LV))) w15 ∧ (convert 22 9 (.slice (some ⟨r6, 0, none⟩) 32 p6)).run Try.prog w15 = .ok (.string (num (SA * SB % LV))) w15 ∧ (convert 22 9 (.slice (some ⟨r8, 0, none⟩) 32 p8)).run Try.prog w15 = .ok (.string (num ((SA + SB) * SD % LV))) w15 ∧ (convert 22 9 (.slice (some ⟨r10, 0, none⟩) 32 p10)).run Try.prog w15 = .ok (.string (num ((SA + SB) * SD % LV))) w15 ∧ (convert 22 9 (.slice (some ⟨r11, 0, none⟩) 32 p11)).run Try.prog w15 = .ok (.string (num (SA * SB * SD % LV))) w15 ∧ (convert 22 9 (.slice (some ⟨r13, 0, none⟩) 32 p13)).run Try.prog w15 = .ok (.string (num (SA * SB * SD % LV))) w15) := Lib.hid ⟨conv_own _ (K5.out) E5.out, conv_own _ (K6.out) E6.out, conv_own _ (K8.out) E8.out, conv_own _ (K10.out) E10.out, conv_own _ (K11.out) E11.out, conv_own _ (K13.out) E13.out⟩; clear s1 s2 s3) | (go_at_call 11; refine (lives_any _).mono ?_; rintro e w16 ⟨rfl, s3⟩; replace K5 := Lib.hid (K5.out.below s3); replace K6 := Lib.hid (K6.out.below s3); replace K8 := Lib.hid (K8.out.below s3); replace K10 := Lib.hid (K10.out.below s3); replace K11 := Lib.hid (K11.out.below s3); replace K13 := Lib.hid (K13.out.below s3); replace KA := Lib.hid (KA.out.below s3); replace KO := Lib.hid (KO.out.below s3); replace BB := Lib.hid (arm_w BB.out s3); have q : Hid ((convert 22 9 (.slice (some ⟨r5, 0, none⟩) 32 p5)).run Try.prog w16 = .ok (.string (num (SA * SB % LV))) w16 ∧ (convert 22 9 (.slice (some ⟨r6, 0, none⟩) 32 p6)).run Try.prog w16 = .ok (.string (num (SA * SB % LV))) w16 ∧ (convert 22 9 (.slice (some ⟨r8, 0, none⟩) 32 p8)).run Try.prog w16 = .ok (.string (num ((SA + SB) * SD % LV))) w16 ∧ (convert 22 9 (.slice (some ⟨r10, 0, none⟩) 32 p10)).run Try.prog w16 = .ok (.string (num ((SA + SB) * SD % LV))) w16 ∧ (convert 22 9 (.slice (some ⟨r11, 0, none⟩) 32 p11)).run Try.prog w16 = .ok (.string (num (SA * SB * SD % LV))) w16 ∧ (convert 22 9 (.slice (some ⟨r13, 0, none⟩) 32 p13)).run Try.prog w16 = .ok (.string (num (SA * SB * SD % LV))) w16) := Lib.hid ⟨conv_own _ (K5.out) E5.out, conv_own _ (K6.out) E6.out, conv_own _ (K8.out) E8.out, conv_own _ (K10.out) E10.out, conv_own _ (K11.out) E11.out, conv_own _ (K13.out) E13.out⟩; clear s3)))
  all_goals (go_wp2_with fail)
  all_goals go_ret
  all_goals exact ⟨rfl, BB.out⟩
end Go.Proofs.Ytbgcdfhnnmopdaa
