/- The plain law of what is left of a number modulo L: signed digits of 256, in the order in which they are worked off. -/
import Derived.Test.YtbgcdfhnnmopdaaRows
namespace Go.Proofs.Ytbgcdfhnnmopdaa

/-- The number of n digits. -/
def sumTo (f : Nat → Int) : Nat → Int
  | 0 => 0
  | n + 1 => sumTo f n + f n * 256 ^ n

theorem sumTo_congr {f g : Nat → Int} : ∀ {n : Nat}, (∀ k, k < n → f k = g k) → sumTo f n = sumTo g n
  | 0, _ => rfl
  | n + 1, h => by
    unfold sumTo
    rw [sumTo_congr (n := n) (fun k hk => h k (by omega)), h n (by omega)]
theorem sumTo_add (f g : Nat → Int) : ∀ n, sumTo (fun k => f k + g k) n = sumTo f n + sumTo g n
  | 0 => rfl
  | n + 1 => by
    unfold sumTo
    rw [sumTo_add f g n]
    grind
theorem sumTo_zero : ∀ n, sumTo (fun _ => 0) n = 0
  | 0 => rfl
  | n + 1 => by
    unfold sumTo
    rw [sumTo_zero n]
    grind
theorem sumTo_smul (c : Int) (f : Nat → Int) : ∀ n, sumTo (fun k => c * f k) n = c * sumTo f n
  | 0 => by simp [sumTo]
  | n + 1 => by
    unfold sumTo
    rw [sumTo_smul c f n]
    grind
theorem sumTo_point (a : Int) (m : Nat) : ∀ n, m < n → sumTo (fun k => if k = m then a else 0) n = a * 256 ^ m
  | 0, h => by omega
  | n + 1, h => by
    unfold sumTo
    by_cases e : m < n
    · rw [sumTo_point a m n e, if_neg (by omega)]
      grind
    · have : m = n := by omega
      subst this
      rw [if_pos rfl, sumTo_congr (g := fun _ => 0) (fun k hk => by rw [if_neg (by omega)]), sumTo_zero]
      grind
theorem sumTo_seg (e : Nat → Int) (s : Nat) : ∀ (m n : Nat), s + n ≤ m → sumTo (fun k => if s ≤ k ∧ k < s + n then e (k - s) else 0) m = 256 ^ s * sumTo e n
  | m, 0, _ => by
    rw [sumTo_congr (g := fun _ => 0) (fun k hk => by rw [if_neg (by omega)]), sumTo_zero]
    simp [sumTo]
  | m, n + 1, h => by
    have ih := sumTo_seg e s m n (by omega)
    have hp := sumTo_point (e n) (s + n) m (by omega)
    rw [sumTo_congr (g := fun k => (if s ≤ k ∧ k < s + n then e (k - s) else 0) + (if k = s + n then e n else 0))]
    · rw [sumTo_add, ih, hp]
      show _ = 256 ^ s * (sumTo e n + e n * 256 ^ n)
      rw [Int.pow_add]
      grind
    · intro k _
      by_cases h1 : k = s + n
      · subst h1
        rw [if_pos (by omega), if_neg (by omega), if_pos rfl, show s + n - s = n by omega]
        omega
      · rw [if_neg h1]
        by_cases h2 : s ≤ k ∧ k < s + n
        · rw [if_pos (by omega), if_pos h2]; omega
        · rw [if_neg (by omega), if_neg h2]; omega

/-- L's bytes. -/
def lc (t : Nat) : Int := ([237, 211, 245, 92, 26, 99, 18, 88, 214, 156, 247, 162, 222, 249, 222, 20, 0, 0, 0, 0, 0, 0, 0, 0, 0, 0, 0, 0, 0, 0, 0, 16] : List Int).getD t 0
def LV : Int := 7237005577332262213973186563042994240857116359379907606001950938285454250989

theorem lc_sum : sumTo lc 32 = LV := by decide
theorem lc_sum20 : sumTo lc 20 + 16 * 256 ^ 31 = LV := by decide
theorem lc_range (t : Nat) : 0 ≤ lc t ∧ lc t ≤ 255 := by
  unfold lc
  by_cases h : t < 32
  · have : ∀ t, t < 32 → 0 ≤ ([237, 211, 245, 92, 26, 99, 18, 88, 214, 156, 247, 162, 222, 249, 222, 20, 0, 0, 0, 0, 0, 0, 0, 0, 0, 0, 0, 0, 0, 0, 0, 16] : List Int).getD t 0 ∧ ([237, 211, 245, 92, 26, 99, 18, 88, 214, 156, 247, 162, 222, 249, 222, 20, 0, 0, 0, 0, 0, 0, 0, 0, 0, 0, 0, 0, 0, 0, 0, 16] : List Int).getD t 0 ≤ 255 := by decide
    exact this t h
  · rw [List.getD_eq_getElem?_getD, List.getElem?_eq_none (by simp; omega)]
    simp
theorem lc_mid (t : Nat) (h1 : 16 ≤ t) (h2 : t < 31) : lc t = 0 := by
  have : ∀ t, t < 31 → 16 ≤ t → lc t = 0 := by decide
  exact this t h2 h1

/-- What is carried behind t of the twenty bytes that the i-th digit is worked off. -/
def cc (f : Nat → Int) (i : Nat) : Nat → Int
  | 0 => 0
  | t + 1 => (f (i - 32 + t) + (cc f i t - 16 * f i * lc t) + 128) / 256
def yy (f : Nat → Int) (i t : Nat) : Int := f (i - 32 + t) + (cc f i t - 16 * f i * lc t)
def zz (f : Nat → Int) (i t : Nat) : Int := yy f i t - 256 * cc f i (t + 1)
/-- The digits behind t bytes. -/
def gg (f : Nat → Int) (i t k : Nat) : Int := if i - 32 ≤ k ∧ k < i - 32 + t then zz f i (k - (i - 32)) else f k
/-- The digits when the i-th is worked off. -/
def hh (f : Nat → Int) (i k : Nat) : Int := if k = i then 0 else if k = i - 12 then gg f i 20 k + cc f i 20 else gg f i 20 k

theorem cc_succ (f : Nat → Int) (i t : Nat) : cc f i (t + 1) = (yy f i t + 128) / 256 := rfl
theorem zz_range (f : Nat → Int) (i t : Nat) : -128 ≤ zz f i t ∧ zz f i t ≤ 127 := by
  unfold zz
  rw [cc_succ]
  omega

theorem zz_sum (f : Nat → Int) (i : Nat) : ∀ n, sumTo (fun t => zz f i t - f (i - 32 + t)) n = -16 * f i * sumTo lc n - cc f i n * 256 ^ n
  | 0 => by simp [sumTo, cc]
  | n + 1 => by
    unfold sumTo
    rw [zz_sum f i n]
    unfold zz yy
    rw [Int.pow_succ]
    grind

theorem hh_sum (f : Nat → Int) (i : Nat) (h1 : 32 ≤ i) (h2 : i < 64) : sumTo (hh f i) 64 = sumTo f 64 - 16 * 256 ^ (i - 32) * f i * LV := by
  have e : ∀ k, k < 64 → hh f i k = ((f k + (if i - 32 ≤ k ∧ k < i - 32 + 20 then zz f i (k - (i - 32)) - f (i - 32 + (k - (i - 32))) else 0)) + (if k = i - 12 then cc f i 20 else 0)) + (if k = i then -f i else 0) := by
    intro k _
    unfold hh gg
    by_cases c1 : k = i
    · subst c1
      rw [if_pos rfl, if_neg (by omega), if_neg (by omega), if_pos rfl]
      omega
    · rw [if_neg c1, if_neg c1]
      by_cases c2 : k = i - 12
      · rw [if_pos c2, if_pos c2, if_neg (by omega), if_neg (by omega)]
        omega
      · rw [if_neg c2, if_neg c2]
        by_cases c3 : i - 32 ≤ k ∧ k < i - 32 + 20
        · rw [if_pos c3, if_pos c3]
          have : i - 32 + (k - (i - 32)) = k := by omega
          rw [this]
          omega
        · rw [if_neg c3, if_neg c3]
          omega
  have hs := sumTo_seg (fun t => zz f i t - f (i - 32 + t)) (i - 32) 64 20 (by omega)
  rw [sumTo_congr e, sumTo_add, sumTo_add, sumTo_add, hs, sumTo_point _ _ _ (by omega), sumTo_point _ _ _ h2, zz_sum, ← lc_sum20]
  have p1 : (256 : Int) ^ (i - 12) = 256 ^ (i - 32) * 256 ^ 20 := by
    have e12 : i - 12 = (i - 32) + 20 := by omega
    rw [e12, Int.pow_add]
  have p2 : (256 : Int) ^ i = 256 ^ (i - 32) * 256 ^ 32 := by
    have e32 : i = (i - 32) + 32 := by omega
    rw [← Int.pow_add, ← e32]
  rw [p1, p2]
  have p3 : (256 : Int) ^ 32 = 16 * (16 * 256 ^ 31) := by decide
  rw [p3]
  grind
end Go.Proofs.Ytbgcdfhnnmopdaa
