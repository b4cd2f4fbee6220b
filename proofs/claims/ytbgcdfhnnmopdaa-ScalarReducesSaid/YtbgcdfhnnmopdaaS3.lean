/- MulAdd: the walk. -/
import Derived.Test.YtbgcdfhnnmopdaaS2
namespace Go.Proofs.Ytbgcdfhnnmopdaa
open Go.RowKit

/-- A product's digits, of k of the one number's digits; of t of the next one's products besides. -/
def conv (a b : Nat → Int) (nb : Nat) : Nat → Nat → Int
  | 0, _ => 0
  | k + 1, q => conv a b nb k q + (if k ≤ q ∧ q < k + nb then a k * b (q - k) else 0)
def accu (a b d : Nat → Int) (nb nd k t q : Nat) : Int := (if q < nd then d q else 0) + conv a b nb k q + (if k ≤ q ∧ q < k + t then a k * b (q - k) else 0)

theorem conv_sum (a b : Nat → Int) (nb : Nat) : ∀ k, k + nb ≤ 64 → sumTo (conv a b nb k) 64 = sumTo a k * sumTo b nb
  | 0, _ => by
    have e : sumTo (conv a b nb 0) 64 = sumTo (fun _ => 0) 64 := sumTo_congr (fun q _ => rfl)
    rw [e, sumTo_zero]
    simp [sumTo]
  | k + 1, h => by
    have ih := conv_sum a b nb k (by omega)
    have hs := sumTo_seg (fun q => a k * b q) k 64 nb (by omega)
    have e : sumTo (conv a b nb (k + 1)) 64 = sumTo (fun q => conv a b nb k q + (if k ≤ q ∧ q < k + nb then a k * b (q - k) else 0)) 64 := sumTo_congr (fun q _ => rfl)
    rw [e, sumTo_add, ih, hs, sumTo_smul]
    show _ = (sumTo a k + a k * 256 ^ k) * sumTo b nb
    grind
theorem mul_byte (x y : Int) (hx : 0 ≤ x ∧ x ≤ 255) (hy : 0 ≤ y ∧ y ≤ 255) : 0 ≤ x * y ∧ x * y ≤ 65025 := by
  have a1 : x * y ≤ 255 * y := Int.mul_le_mul_of_nonneg_right hx.2 hy.1
  have a2 : 0 ≤ x * y := Int.mul_nonneg hx.1 hy.1
  omega
theorem conv_range (a b : Nat → Int) (nb : Nat) (ha : ∀ i, 0 ≤ a i ∧ a i ≤ 255) (hb : ∀ i, 0 ≤ b i ∧ b i ≤ 255) : ∀ k q, 0 ≤ conv a b nb k q ∧ conv a b nb k q ≤ 65025 * k
  | 0, _ => by unfold conv; omega
  | k + 1, q => by
    have ih := conv_range a b nb ha hb k q
    have m := mul_byte (a k) (b (q - k)) (ha k) (hb _)
    show 0 ≤ conv a b nb k q + _ ∧ conv a b nb k q + _ ≤ _
    split <;> omega
theorem accu_range (a b d : Nat → Int) (nb nd k t q : Nat) (ha : ∀ i, 0 ≤ a i ∧ a i ≤ 255) (hb : ∀ i, 0 ≤ b i ∧ b i ≤ 255) (hd : ∀ i, 0 ≤ d i ∧ d i ≤ 255) (hk : k ≤ 32) : 0 ≤ accu a b d nb nd k t q ∧ accu a b d nb nd k t q ≤ 2150000 := by
  have h1 := conv_range a b nb ha hb k q
  have m := mul_byte (a k) (b (q - k)) (ha k) (hb _)
  have h2 := hd q
  unfold accu
  split <;> split <;> omega
theorem accu_done (a b d : Nat → Int) (nb nd k q : Nat) : accu a b d nb nd k nb q = accu a b d nb nd (k + 1) 0 q := by
  unfold accu
  show _ = _ + (conv a b nb k q + _) + _
  rw [if_neg (show ¬ (k + 1 ≤ q ∧ q < k + 1 + 0) by omega)]
  omega
theorem accu_next (a b d : Nat → Int) (nb nd k t q : Nat) : accu a b d nb nd k (t + 1) q = if q = k + t then accu a b d nb nd k t (k + t) + a k * b t else accu a b d nb nd k t q := by
  unfold accu
  by_cases c : q = k + t
  · subst c
    rw [if_pos rfl, if_neg (show ¬ (k ≤ k + t ∧ k + t < k + t) by omega), if_pos (show k ≤ k + t ∧ k + t < k + (t + 1) by omega), show k + t - k = t by omega]
    omega
  · rw [if_neg c]
    by_cases c2 : k ≤ q ∧ q < k + t
    · rw [if_pos c2, if_pos (show k ≤ q ∧ q < k + (t + 1) by omega)]
    · rw [if_neg c2, if_neg (show ¬ (k ≤ q ∧ q < k + (t + 1)) by omega)]
theorem accu_sum (a b d : Nat → Int) (na nb nd : Nat) (hab : na + nb ≤ 64) (hd : nd ≤ 64) : sumTo (accu a b d nb nd na 0) 64 = sumTo a na * sumTo b nb + sumTo d nd := by
  have e : ∀ q, q < 64 → accu a b d nb nd na 0 q = (if q < nd then d q else 0) + conv a b nb na q := by
    intro q _
    unfold accu
    rw [if_neg (show ¬ (na ≤ q ∧ q < na + 0) by omega)]
    omega
  rw [sumTo_congr e, sumTo_add, conv_sum a b nb na hab]
  have := sumTo_tail (fun q => if q < nd then d q else 0) nd (fun q hq => by rw [if_neg (by omega)]) (64 - nd)
  rw [show nd + (64 - nd) = 64 by omega] at this
  rw [this, sumTo_congr (g := d) fun q hq => by rw [if_pos hq]]
  omega

set_option maxRecDepth 100000 in
set_option maxHeartbeats 2000000 in
theorem mulAdd_any (A B D : Option Addr) (n1 c1 n2 c2 n3 c3 : Nat) (a b d : Nat → Int) (w : World) (ha : Rd w .u8 A n1 a) (hb : Rd w .u8 B n2 b) (hd : Rd w .u8 D n3 d) (h1 : n1 ≤ 9223372036854775807) (h2 : n2 ≤ 9223372036854775807) (h3 : n3 ≤ 9223372036854775807) :
    Calls Try.prog 12 #[.slice A n1 c1, .slice B n2 c2, .slice D n3 c3] w (Res w ((sumTo a (min n1 32) * sumTo b (min n2 32) + sumTo d (min n3 32)) % LV)) := by
  obtain ⟨m1, hm1⟩ : ∃ m, m = min n1 32 := ⟨_, rfl⟩
  obtain ⟨m2, hm2⟩ : ∃ m, m = min n2 32 := ⟨_, rfl⟩
  obtain ⟨m3, hm3⟩ : ∃ m, m = min n3 32 := ⟨_, rfl⟩
  rw [← hm1, ← hm2, ← hm3]
  have HA := Lib.hid ha.1
  have HB := Lib.hid hb.1
  have HD := Lib.hid hd.1
  have RA := Lib.hid ha.2
  have RB := Lib.hid hb.2
  have RD := Lib.hid hd.2
  have HM1 : Hid ((m1 : Int) = min (n1 : Int) 32) := by show _ = _; omega
  have HM2 : Hid ((m2 : Int) = min (n2 : Int) 32) := by show _ = _; omega
  have HM3 : Hid ((m3 : Int) = min (n3 : Int) 32) := by show _ = _; omega
  have k1 : m1 ≤ 32 := by omega
  have k2 : m2 ≤ 32 := by omega
  have k3 : m3 ≤ 32 := by omega
  have l1 : m1 ≤ n1 := by omega
  have l2 : m2 ≤ n2 := by omega
  have l3 : m3 ≤ n3 := by omega
  clear ha hb hd hm1 hm2 hm3
  go_enter Try.func12, Try.ntmps12
  go_wp2_with (with_reducible refine wpList_min rfl (.tmp 12) (.const (.int .i64 32)) rfl n3 32 m3 rfl rfl HM3.out ?_)
  have X0 : Hid (Row (w.alloc (.cells Z64 34)) w.heap.size 34 .i64 64 (fun _ => 0)) := World.rowIs_alloc w _ 34 _ zeros64
  have B0 : Hid (Below w.heap.size w (w.alloc (.cells Z64 34))) := (Below.refl _ _).alloc (Nat.le_refl _) _
  obtain ⟨W0, hW0⟩ : ∃ W0, W0 = w.alloc (.cells Z64 34) := ⟨_, rfl⟩
  rw [← hW0] at X0 B0
  unfold Z64 at hW0
  rw [← hW0]
  clear hW0
  go_loopw [14] (fun q wr => ∃ k : Nat, k ≤ m3 ∧ q = .int .i64 k ∧ Row wr w.heap.size 34 .i64 64 (fun q => if q < k then d q else 0) ∧ Below w.heap.size w wr) (fun q _ => m3 - (intOf q).toNat)
  case atStart => exact ⟨0, by omega, rfl, X0.out.congr fun q _ => (if_neg (Nat.not_lt_zero q)).symm, B0.out⟩
  case round =>
    obtain ⟨k, hk, rfl, hx, hb⟩ := hrel
    by_cases hlt : k < m3
    · obtain ⟨b', o, rfl, hbl, hcell⟩ := HD.out (by omega)
      have xk := (hb.cell (p := ⟨b', o + k, none⟩) hbl).trans (hcell k (by omega))
      have xo := hx.cell (i := k) (by omega)
      have fz := hx.frozen k
      have HX := Lib.hid hx
      have HB5 := Lib.hid hb
      have k0 : (0 : Int) ≤ (k : Int) := by omega
      have k1 : (k : Int) < 64 := by omega
      have k2 : (k : Int) < (n3 : Int) := by omega
      have r := RD.out k
      clear hx hb hcell
      go_wp2_with fail
      go_roundw
      case rel =>
        refine ⟨k + 1, by omega, by go_num, HX.out.setTo k (d k) (fun q hq => ?_), HB5.out.setCell (p := ⟨w.heap.size, k, none⟩) (Nat.le_refl _) _⟩
        by_cases c1 : q = k
        · rw [if_pos c1, if_pos (by omega), c1]
        · rw [if_neg c1]
          by_cases c2 : q < k
          · rw [if_pos c2, if_pos (by omega)]
          · rw [if_neg c2, if_neg (by omega)]
      case measure => simp [intOf]; omega
    · have hkm : k = m3 := by omega
      subst hkm
      have HX := Lib.hid hx
      have HB5 := Lib.hid hb
      clear hx hb
      go_wp2_with (with_reducible refine wpList_min rfl (.tmp 26) (.const (.int .i64 32)) rfl n1 32 m1 rfl rfl HM1.out ?_)
      go_loopw [28] (fun q wr => ∃ i : Nat, i ≤ m1 ∧ q = .int .i64 i ∧ Row wr w.heap.size 34 .i64 64 (accu a b d m2 k i 0) ∧ Below w.heap.size w wr) (fun q _ => m1 - (intOf q).toNat)
      case atStart =>
        refine ⟨0, by omega, rfl, HX.out.congr fun q _ => ?_, HB5.out⟩
        unfold accu conv
        rw [if_neg (show ¬ (0 ≤ q ∧ q < 0 + 0) by omega)]
        omega
      case round =>
        obtain ⟨i, hi, rfl, hx, hb⟩ := hrel
        by_cases hlt1 : i < m1
        · have HX1 := Lib.hid hx
          have HB1 := Lib.hid hb
          clear hx hb
          go_wp2_with (with_reducible refine wpList_min rfl (.tmp 32) (.const (.int .i64 32)) rfl n2 32 m2 rfl rfl HM2.out ?_)
          go_loopw [34] (fun q wr => ∃ j : Nat, j ≤ m2 ∧ q = .int .i64 j ∧ Row wr w.heap.size 34 .i64 64 (accu a b d m2 k i j) ∧ Below w.heap.size w wr) (fun q _ => m2 - (intOf q).toNat)
          case atStart => exact ⟨0, by omega, rfl, HX1.out, HB1.out⟩
          case round =>
            obtain ⟨j, hj, rfl, hx, hb⟩ := hrel
            by_cases hlt2 : j < m2
            · obtain ⟨ba, oa, rfl, hba, hca⟩ := HA.out (by omega)
              obtain ⟨bb, ob, rfl, hbb, hcb⟩ := HB.out (by omega)
              have xa := (hb.cell (p := ⟨ba, oa + i, none⟩) hba).trans (hca i (by omega))
              have xb := (hb.cell (p := ⟨bb, ob + j, none⟩) hbb).trans (hcb j (by omega))
              have xo := hx.cell (i := i + j) (by omega)
              have fz := hx.frozen (i + j)
              have r1 := RA.out i
              have r2 := RB.out j
              have r3 := mul_byte (a i) (b j) r1 r2
              have r4 := accu_range a b d m2 k i j (i + j) RA.out RB.out RD.out (by omega)
              have HX2 := Lib.hid hx
              have HB2 := Lib.hid hb
              have NX := Lib.hid (accu_next a b d m2 k i j)
              clear hx hb hca hcb
              generalize accu a b d m2 k i j (i + j) = vo at *
              generalize a i = va at *
              generalize b j = vb at *
              have w1 : IntKind.i64.wrap ((i : Int) + (j : Int)) = (i : Int) + (j : Int) := IntWalk.i64_in _ (by omega)
              have w2 : IntKind.i64.wrap (va * vb) = va * vb := IntWalk.i64_in _ (by omega)
              have w3 : IntKind.i64.wrap (vo + va * vb) = vo + va * vb := IntWalk.i64_in _ (by omega)
              have i0 : (0 : Int) ≤ (i : Int) := by omega
              have i1 : (i : Int) < (n1 : Int) := by omega
              have j0 : (0 : Int) ≤ (j : Int) := by omega
              have j1 : (j : Int) < (n2 : Int) := by omega
              have ij0 : (0 : Int) ≤ (i : Int) + (j : Int) := by omega
              have ij1 : (i : Int) + (j : Int) < 64 := by omega
              have ij2 : ((i : Int) + (j : Int)).toNat = i + j := by omega
              go_wp2_with fail
              go_still_tail 18, (by kernel_rfl)
              go_wp2_with fail
              go_roundw
              case rel =>
                refine ⟨j + 1, by omega, by go_num, (HX2.out.setTo (i + j) (vo + va * vb) (fun q hq => ?_)).drew, (HB2.out.setCell (p := ⟨w.heap.size, i + j, none⟩) (Nat.le_refl _) _).drew⟩
                exact NX.out q
              case measure => simp [intOf]; omega
            · have hjm : j = m2 := by omega
              subst hjm
              have HX2 := Lib.hid hx
              have HB2 := Lib.hid hb
              clear hx hb
              go_wp2_with fail
              go_roundw
              case rel => exact ⟨i + 1, by omega, by go_num, HX2.out.congr fun q _ => accu_done a b d j k i q, HB2.out⟩
              case measure => simp [intOf]; omega
        · have him : i = m1 := by omega
          subst him
          have hcl := left_any w w.heap.size _ wr hb (Nat.le_refl _) hx (fun q _ => by
            have := accu_range a b d m2 k i 0 q RA.out RB.out RD.out (by omega)
            omega)
          rw [accu_sum a b d i m2 k (by omega) (by omega)] at hcl
          have HCL := Lib.hid hcl
          clear hx hb hcl
          go_wp2_with (go_at_call 20; refine HCL.out.mono ?_; rintro e w2 ⟨r, cap, g, rfl, hr⟩; have HRR := Lib.hid hr; clear hr)
          go_ret
          exact ⟨r, cap, g, rfl, HRR.out⟩
end Go.Proofs.Ytbgcdfhnnmopdaa
