/- Less, Plus, Minus: the walks. -/
import Derived.Test.YtbgcdfhnnmopdaaS5
import Derived.Test.YtbgcdfhnnmopdaaM4
namespace Go.Proofs.Ytbgcdfhnnmopdaa
open Go.RowKit

theorem less_of (a b : Nat → Int) (ha : ∀ i, 0 ≤ a i ∧ a i ≤ 255) (hb : ∀ i, 0 ≤ b i ∧ b i ≤ 255) (n1 n2 j : Nat) (hj : j < n1 + n2 + 1) (h : ∀ q, j < q → ext a n1 q = ext b n2 q) (hlt : ext a n1 j < ext b n2 j) : sumTo a n1 < sumTo b n2 := by
  have := less_at (ext a n1) (ext b n2) (ext_range ha n1) (ext_range hb n2) j hlt (n1 + n2 + 1 - (j + 1)) (fun q h1 _ => h q h1)
  rw [show j + 1 + (n1 + n2 + 1 - (j + 1)) = n1 + n2 + 1 by omega, ext_sum a n1 _ (by omega), ext_sum b n2 _ (by omega)] at this
  exact this

set_option maxHeartbeats 1000000 in
theorem less_any (A B : Option Addr) (n1 c1 n2 c2 : Nat) (a b : Nat → Int) (w : World) (ha : Rd w .i64 A n1 a) (hb : Rd w .i64 B n2 b) (h1 : n1 ≤ 1000000) (h2 : n2 ≤ 1000000) :
    Calls Try.prog 18 #[.slice A n1 c1, .slice B n2 c2] w fun e w' => e = .returned (.bool (decide (sumTo a n1 < sumTo b n2))) ∧ w' = w := by
  have HA := Lib.hid ha.1
  have HB := Lib.hid hb.1
  have RA := Lib.hid ha.2
  have RB := Lib.hid hb.2
  have w0 : IntKind.i64.wrap ((n1 : Int) + (n2 : Int)) = (n1 : Int) + (n2 : Int) := IntWalk.i64_in _ (by omega)
  clear ha hb
  go_enter Try.func18, Try.ntmps18
  go_wp2_with fail
  clear w0
  go_loopw [5] (fun q wr => ∃ k : Nat, k ≤ n1 + n2 + 1 ∧ q = .int .i64 ((k : Int) - 1) ∧ wr = w ∧ Hid (∀ i, k ≤ i → ext a n1 i = ext b n2 i)) (fun q _ => (intOf q + 1).toNat)
  case atStart => exact ⟨n1 + n2 + 1, Nat.le_refl _, by go_num, rfl, Lib.hid fun i hi => by unfold ext; rw [if_neg (by omega), if_neg (by omega)]⟩
  case round =>
    obtain ⟨k, hk, rfl, rfl, hq⟩ := hrel
    match k, hk, hq with
    | 0, _, hq =>
      have hs : sumTo a n1 = sumTo b n2 := by
        have := sumTo_congr (n := n1 + n2) (fun i _ => hq.out i (Nat.zero_le i))
        rw [ext_sum a n1 _ (by omega), ext_sum b n2 _ (by omega)] at this
        exact this
      have HS : Hid (decide (sumTo a n1 < sumTo b n2) = false) := Lib.hid (by rw [hs]; simp)
      clear hs
      go_wp2_with fail
      go_ret
      exact ⟨ret_bool HS.out.symm, rfl⟩
    | j + 1, hk, hq =>
      have ej : ((j + 1 : Nat) : Int) - 1 = (j : Int) := by omega
      rw [ej]
      have j0 : (0 : Int) ≤ (j : Int) := by omega
      have jn : ¬ (j : Int) < 0 := by omega
      have ws : IntKind.i64.wrap ((j : Int) - 1) = (j : Int) - 1 := IntWalk.i64_in _ (by omega)
      obtain ⟨x, hx⟩ : ∃ x, x = ext a n1 j := ⟨_, rfl⟩
      obtain ⟨y, hy⟩ : ∃ y, y = ext b n2 j := ⟨_, rfl⟩
      have L1 : Hid (x < y → sumTo a n1 < sumTo b n2) := Lib.hid fun h => less_of a b RA.out RB.out n1 n2 j (by omega) (fun q hq' => hq.out q (by omega)) (by rw [← hx, ← hy]; exact h)
      have L2 : Hid (y < x → sumTo b n2 < sumTo a n1) := Lib.hid fun h => less_of b a RB.out RA.out n2 n1 j (by omega) (fun q hq' => (hq.out q (by omega)).symm) (by rw [← hx, ← hy]; exact h)
      have L3 : Hid (x = y → ∀ i, j ≤ i → ext a n1 i = ext b n2 i) := Lib.hid fun h i hi => by
        by_cases c : i = j
        · rw [c, ← hx, ← hy, h]
        · exact hq.out i (by omega)
      have fin : Hid (x ≠ y → decide (x < y) = decide (sumTo a n1 < sumTo b n2)) := Lib.hid fun hne => by
        by_cases c : x < y
        · rw [decide_eq_true c, decide_eq_true (L1.out c)]
        · rw [decide_eq_false c, decide_eq_false (by have := L2.out (by omega); omega)]
      clear L1 L2 hq ej
      by_cases c1 : j < n1
      · obtain ⟨b1, o1, rfl, hb1, hc1⟩ := HA.out (by omega)
        have x1 := hc1 j c1
        have i1 : (j : Int) < (n1 : Int) := by omega
        rw [show a j = x by rw [hx]; exact (if_pos c1).symm] at x1
        clear hc1 hx
        by_cases c2 : j < n2
        · obtain ⟨b2, o2, rfl, hb2, hc2⟩ := HB.out (by omega)
          have x2 := hc2 j c2
          have i2 : (j : Int) < (n2 : Int) := by omega
          rw [show b j = y by rw [hy]; exact (if_pos c2).symm] at x2
          clear hc2 hy
          by_cases hxy : x = y
          · have hz := L3.out hxy
            have HZ := Lib.hid hz
            subst hxy
            clear hz
            go_wp2_with fail
            go_roundw
            case rel => exact ⟨j, by omega, by go_num, by trivial, HZ⟩
            case measure => first | (simp [intOf]; done) | (simp [intOf]; omega)
          · have HF := Lib.hid (fin.out hxy)
            have hxz : (x != y) = true := by simp only [bne_iff_ne, ne_eq]; exact hxy
            go_wp2_with fail
            go_ret
            exact ⟨ret_bool HF.out, rfl⟩
        · have i2 : ¬ (j : Int) < (n2 : Int) := by omega
          obtain rfl : y = 0 := by rw [hy]; exact if_neg c2
          clear hy
          by_cases hxy : x = (0 : Int)
          · have hz := L3.out hxy
            have HZ := Lib.hid hz
            subst hxy
            clear hz
            go_wp2_with fail
            go_roundw
            case rel => exact ⟨j, by omega, by go_num, by trivial, HZ⟩
            case measure => first | (simp [intOf]; done) | (simp [intOf]; omega)
          · have HF := Lib.hid (fin.out hxy)
            have hxz : (x != (0 : Int)) = true := by simp only [bne_iff_ne, ne_eq]; exact hxy
            go_wp2_with fail
            go_ret
            exact ⟨ret_bool HF.out, rfl⟩
      · have i1 : ¬ (j : Int) < (n1 : Int) := by omega
        obtain rfl : x = 0 := by rw [hx]; exact if_neg c1
        clear hx
        by_cases c2 : j < n2
        · obtain ⟨b2, o2, rfl, hb2, hc2⟩ := HB.out (by omega)
          have x2 := hc2 j c2
          have i2 : (j : Int) < (n2 : Int) := by omega
          rw [show b j = y by rw [hy]; exact (if_pos c2).symm] at x2
          clear hc2 hy
          by_cases hxy : (0 : Int) = y
          · have hz := L3.out hxy
            have HZ := Lib.hid hz
            subst hxy
            clear hz
            go_wp2_with fail
            go_roundw
            case rel => exact ⟨j, by omega, by go_num, by trivial, HZ⟩
            case measure => first | (simp [intOf]; done) | (simp [intOf]; omega)
          · have HF := Lib.hid (fin.out hxy)
            have hxz : ((0 : Int) != y) = true := by simp only [bne_iff_ne, ne_eq]; exact hxy
            go_wp2_with fail
            go_ret
            exact ⟨ret_bool HF.out, rfl⟩
        · have i2 : ¬ (j : Int) < (n2 : Int) := by omega
          obtain rfl : y = 0 := by rw [hy]; exact if_neg c2
          clear hy
          by_cases hxy : (0 : Int) = (0 : Int)
          · have hz := L3.out hxy
            have HZ := Lib.hid hz
            skip
            clear hz
            go_wp2_with fail
            go_roundw
            case rel => exact ⟨j, by omega, by go_num, by trivial, HZ⟩
            case measure => first | (simp [intOf]; done) | (simp [intOf]; omega)
          · exact absurd rfl hxy
end Go.Proofs.Ytbgcdfhnnmopdaa
