/- Plain laws of digits: carries, comparing, one digit turned. -/
import Derived.Test.YtbgcdfhnnmopdaaM3
namespace Go.Proofs.Ytbgcdfhnnmopdaa

/-- What is carried to digit i, of sums of digits. -/
def cy (s : Nat → Int) (c0 : Int) : Nat → Int
  | 0 => c0
  | i + 1 => (cy s c0 i + s i) / 256
def cd (s : Nat → Int) (c0 : Int) (i : Nat) : Int := (cy s c0 i + s i) % 256

theorem cd_range (s : Nat → Int) (c0 : Int) (i : Nat) : 0 ≤ cd s c0 i ∧ cd s c0 i ≤ 255 := by unfold cd; omega
theorem cy_sum (s : Nat → Int) (c0 : Int) : ∀ k, sumTo (cd s c0) k + cy s c0 k * 256 ^ k = sumTo s k + c0
  | 0 => by simp [sumTo, cy]
  | k + 1 => by
    have ih := cy_sum s c0 k
    show sumTo (cd s c0) k + cd s c0 k * 256 ^ k + (cy s c0 k + s k) / 256 * 256 ^ (k + 1) = sumTo s k + s k * 256 ^ k + c0
    have e : cd s c0 k = (cy s c0 k + s k) - 256 * ((cy s c0 k + s k) / 256) := by unfold cd; omega
    rw [e, Int.pow_succ]
    generalize (cy s c0 k + s k) / 256 = q at *
    grind
theorem cy_range (s : Nat → Int) (c0 lo hi : Int) (h0 : lo ≤ c0 ∧ c0 ≤ hi) (hs : ∀ i, 256 * lo - lo ≤ s i ∧ s i ≤ 256 * hi + 255 - hi) : ∀ k, lo ≤ cy s c0 k ∧ cy s c0 k ≤ hi
  | 0 => h0
  | k + 1 => by
    have ih := cy_range s c0 lo hi h0 hs k
    have := hs k
    show lo ≤ (cy s c0 k + s k) / 256 ∧ (cy s c0 k + s k) / 256 ≤ hi
    omega

/-- A number's digits, and zeros behind them. -/
def ext (f : Nat → Int) (n i : Nat) : Int := if i < n then f i else 0
theorem ext_range {f : Nat → Int} (h : ∀ i, 0 ≤ f i ∧ f i ≤ 255) (n i : Nat) : 0 ≤ ext f n i ∧ ext f n i ≤ 255 := by
  have := h i
  unfold ext
  split <;> omega
theorem ext_sum (f : Nat → Int) (n m : Nat) (h : n ≤ m) : sumTo (ext f n) m = sumTo f n := by
  have := sumTo_tail (ext f n) n (fun q hq => if_neg (by omega)) (m - n)
  rw [show n + (m - n) = m by omega] at this
  rw [this]
  exact sumTo_congr fun q hq => if_pos hq

theorem sumTo_split (f : Nat → Int) (n : Nat) : ∀ m, sumTo f (n + m) = sumTo f n + 256 ^ n * sumTo (fun q => f (n + q)) m
  | 0 => by simp [sumTo]
  | m + 1 => by
    show sumTo f (n + m) + f (n + m) * 256 ^ (n + m) = _
    rw [sumTo_split f n m]
    show _ = sumTo f n + 256 ^ n * (sumTo (fun q => f (n + q)) m + f (n + m) * 256 ^ m)
    rw [Int.pow_add]
    grind

theorem sumTo_set (G : Nat → Int) (p : Nat) (v : Int) (n : Nat) (h : p < n) : sumTo (fun q => if q = p then v else G q) n = sumTo G n + (v - G p) * 256 ^ p := by
  have h1 := sumTo_point (v - G p) p n h
  have h2 := sumTo_add G (fun q => if q = p then v - G p else 0) n
  rw [← h1, ← h2]
  refine sumTo_congr fun q _ => ?_
  by_cases c : q = p
  · rw [if_pos c, if_pos c, c]; omega
  · rw [if_neg c, if_neg c]; omega

/-- The highest digit that is another one decides. -/
theorem less_at (f g : Nat → Int) (hf : ∀ i, 0 ≤ f i ∧ f i ≤ 255) (hg : ∀ i, 0 ≤ g i ∧ g i ≤ 255) (i : Nat) (hi : f i < g i) : ∀ m, (∀ q, i < q → q < i + 1 + m → f q = g q) → sumTo f (i + 1 + m) < sumTo g (i + 1 + m)
  | 0, _ => by
    have a := sumTo_digits f i (fun k _ => hf k)
    have b := sumTo_digits g i (fun k _ => hg k)
    show sumTo f i + f i * 256 ^ i < sumTo g i + g i * 256 ^ i
    have : (f i + 1) * 256 ^ i ≤ g i * 256 ^ i := Int.mul_le_mul_of_nonneg_right (by omega) (by omega)
    rw [Int.add_mul] at this
    omega
  | m + 1, h => by
    have ih := less_at f g hf hg i hi m (fun q h1 h2 => h q h1 (by omega))
    have e := h (i + 1 + m) (by omega) (by omega)
    show sumTo f (i + 1 + m) + f (i + 1 + m) * 256 ^ (i + 1 + m) < sumTo g (i + 1 + m) + g (i + 1 + m) * 256 ^ (i + 1 + m)
    rw [e]
    omega

/-- Plus: no digit is carried out. -/
theorem plus_sum (a b : Nat → Int) (ha : ∀ i, 0 ≤ a i ∧ a i ≤ 255) (hb : ∀ i, 0 ≤ b i ∧ b i ≤ 255) (n1 n2 m : Nat) (h1 : n1 ≤ m) (h2 : n2 ≤ m) :
    sumTo (cd (fun i => ext a n1 i + ext b n2 i) 0) (m + 1) = sumTo a n1 + sumTo b n2 := by
  have hs := cy_sum (fun i => ext a n1 i + ext b n2 i) 0 (m + 1)
  have hr := cy_range (fun i => ext a n1 i + ext b n2 i) 0 0 1 (by omega) (fun i => by
    have := ext_range ha n1 i
    have := ext_range hb n2 i
    show _ ≤ ext a n1 i + ext b n2 i ∧ ext a n1 i + ext b n2 i ≤ _
    omega) m
  have e0 : cy (fun i => ext a n1 i + ext b n2 i) 0 (m + 1) = 0 := by
    show (cy (fun i => ext a n1 i + ext b n2 i) 0 m + (ext a n1 m + ext b n2 m)) / 256 = 0
    have x1 : ext a n1 m = 0 := if_neg (by omega)
    have x2 : ext b n2 m = 0 := if_neg (by omega)
    rw [x1, x2]
    omega
  rw [e0, sumTo_add, ext_sum a n1 (m + 1) (by omega), ext_sum b n2 (m + 1) (by omega)] at hs
  omega
/-- Minus: nothing is borrowed at last. -/
theorem minus_sum (a b : Nat → Int) (ha : ∀ i, 0 ≤ a i ∧ a i ≤ 255) (n1 n2 : Nat) (h : n2 ≤ n1) (hle : sumTo b n2 ≤ sumTo a n1) (h0 : 0 ≤ sumTo b n2) :
    sumTo (cd (fun i => a i - ext b n2 i) 0) n1 = sumTo a n1 - sumTo b n2 := by
  have hs := cy_sum (fun i => a i - ext b n2 i) 0 n1
  have e : sumTo (fun i => a i - ext b n2 i) n1 = sumTo a n1 - sumTo b n2 := by
    have h1 := sumTo_add a (fun i => -1 * ext b n2 i) n1
    have h2 := sumTo_smul (-1) (ext b n2) n1
    rw [h2, ext_sum b n2 n1 h] at h1
    have h3 : sumTo (fun i => a i - ext b n2 i) n1 = sumTo (fun k => a k + -1 * ext b n2 k) n1 := sumTo_congr fun q _ => by omega
    rw [h3, h1]
    omega
  rw [e] at hs
  have r1 := sumTo_digits (cd (fun i => a i - ext b n2 i) 0) n1 (fun k _ => cd_range _ _ k)
  have r2 := sumTo_digits a n1 (fun k _ => ha k)
  generalize cy (fun i => a i - ext b n2 i) 0 n1 = c at *
  generalize sumTo (cd (fun i => a i - ext b n2 i) 0) n1 = S at *
  have hp : (0 : Int) < 256 ^ n1 := by omega
  have hc : c = 0 := by
    by_cases c1 : 1 ≤ c
    · have := Int.mul_le_mul_of_nonneg_right c1 (Int.le_of_lt hp)
      omega
    · by_cases c2 : c ≤ -1
      · have := Int.mul_le_mul_of_nonneg_right c2 (Int.le_of_lt hp)
        omega
      · omega
  rw [hc] at hs
  omega
/-- A number and a bit more, twice. -/
theorem twice_sum (r : Nat → Int) (hr : ∀ i, 0 ≤ r i ∧ r i ≤ 255) (bit : Int) (hb : 0 ≤ bit ∧ bit ≤ 1) (n : Nat) (h : 2 * sumTo r n + bit < 256 ^ n) : sumTo (cd (fun i => 2 * r i) bit) n = 2 * sumTo r n + bit := by
  have hs := cy_sum (fun i => 2 * r i) bit n
  rw [sumTo_smul] at hs
  have hc := cy_range (fun i => 2 * r i) bit 0 1 (by omega) (fun i => by have := hr i; show _ ≤ 2 * r i ∧ 2 * r i ≤ _; omega) n
  have r1 := sumTo_digits (cd (fun i => 2 * r i) bit) n (fun k _ => cd_range _ _ k)
  generalize cy (fun i => 2 * r i) bit n = c at *
  have hp : (0 : Int) < 256 ^ n := by omega
  have : c = 0 := by
    by_cases c1 : 1 ≤ c
    · have := Int.mul_le_mul_of_nonneg_right c1 (Int.le_of_lt hp)
      omega
    · omega
  rw [this] at hs
  omega
end Go.Proofs.Ytbgcdfhnnmopdaa
