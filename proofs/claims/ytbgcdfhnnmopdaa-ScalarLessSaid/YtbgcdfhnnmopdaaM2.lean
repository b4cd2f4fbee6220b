/- The plain law of what is left, further: how great the digits are; the last carries; that what is left is the number modulo L. -/
import Derived.Test.YtbgcdfhnnmopdaaM1
namespace Go.Proofs.Ytbgcdfhnnmopdaa

theorem mul_range (a l : Int) (M : Int) (h1 : -M ≤ a) (h2 : a ≤ M) (h3 : 0 ≤ l) (h4 : l ≤ 255) : -(255 * M) ≤ a * l ∧ a * l ≤ 255 * M := by
  have hM : 0 ≤ M := by omega
  have a1 : a * l ≤ M * l := Int.mul_le_mul_of_nonneg_right h2 h3
  have a2 : -M * l ≤ a * l := Int.mul_le_mul_of_nonneg_right h1 h3
  have a3 : M * l ≤ M * 255 := Int.mul_le_mul_of_nonneg_left h4 hM
  have a4 : -M * l = -(M * l) := Int.neg_mul _ _
  omega

/-- How great a digit may be ahead of its turn. -/
def MM : Int := 4194304

/-- The carries of a turn: each within 17 times that. -/
theorem cc_range (f : Nat → Int) (i : Nat) (hf : ∀ k, -MM ≤ f k ∧ f k ≤ MM) : ∀ t, -71303168 ≤ cc f i t ∧ cc f i t ≤ 71303168
  | 0 => by unfold cc; omega
  | t + 1 => by
    have ih := cc_range f i hf t
    have h1 := hf (i - 32 + t)
    have h2 := hf i
    have h3 := lc_range t
    have h4 := mul_range (f i) (lc t) MM h2.1 h2.2 h3.1 h3.2
    unfold cc
    have e : 16 * f i * lc t = 16 * (f i * lc t) := Int.mul_assoc _ _ _
    rw [e]
    unfold MM at *
    omega
theorem yy_range (f : Nat → Int) (i t : Nat) (hf : ∀ k, -MM ≤ f k ∧ f k ≤ MM) : -20000000000 ≤ yy f i t ∧ yy f i t ≤ 20000000000 := by
  have ih := cc_range f i hf t
  have h1 := hf (i - 32 + t)
  have h2 := hf i
  have h3 := lc_range t
  have h4 := mul_range (f i) (lc t) MM h2.1 h2.2 h3.1 h3.2
  unfold yy
  have e : 16 * f i * lc t = 16 * (f i * lc t) := Int.mul_assoc _ _ _
  rw [e]
  unfold MM at *
  omega

/-- The last four bytes of the twenty have nothing of L: what is carried grows small. -/
theorem cc_last (f : Nat → Int) (i : Nat) (hf : ∀ k, -MM ≤ f k ∧ f k ≤ MM) (B : Int) (hB : ∀ t, 16 ≤ t → t < 20 → -B ≤ f (i - 32 + t) ∧ f (i - 32 + t) ≤ B) (_hB0 : 0 ≤ B) :
    -(B / 128 + 8 + B / 256) ≤ cc f i 20 ∧ cc f i 20 ≤ B / 128 + 8 + B / 256 := by
  have c16 := cc_range f i hf 16
  have e : ∀ t, 16 ≤ t → t < 20 → cc f i (t + 1) = (f (i - 32 + t) + cc f i t + 128) / 256 := by
    intro t h1 h2
    show (f (i - 32 + t) + (cc f i t - 16 * f i * lc t) + 128) / 256 = _
    rw [lc_mid t h1 (by omega), Int.mul_zero, Int.sub_zero]
  have e16 := e 16 (by omega) (by omega)
  have e17 := e 17 (by omega) (by omega)
  have e18 := e 18 (by omega) (by omega)
  have e19 := e 19 (by omega) (by omega)
  have b16 := hB 16 (by omega) (by omega)
  have b17 := hB 17 (by omega) (by omega)
  have b18 := hB 18 (by omega) (by omega)
  have b19 := hB 19 (by omega) (by omega)
  simp only [Nat.reduceAdd] at e16 e17 e18 e19
  generalize cc f i 16 = x16 at *
  generalize cc f i 17 = x17 at *
  generalize cc f i 18 = x18 at *
  generalize cc f i 19 = x19 at *
  generalize cc f i 20 = x20 at *
  omega

/-- The digits ahead of the i-th digit's turn. -/
structure Inv (f : Nat → Int) (i : Nat) : Prop where
  great : ∀ k, -MM ≤ f k ∧ f k ≤ MM
  none_ : ∀ k, i < k → f k = 0
  first : ∀ k, k ≤ 50 → (i < 63 → i < k + 32 → -130 ≤ f k ∧ f k ≤ 130)
  low : ∀ k, k ≤ 50 → i < 63 → i < k + 32 → k + 12 ≤ i → -128 ≤ f k ∧ f k ≤ 127
  start : ∀ k, k + 32 ≤ i → -2200000 ≤ f k ∧ f k ≤ 2200000
  starts : i = 63 → ∀ k, -2200000 ≤ f k ∧ f k ≤ 2200000

theorem inv_step (f : Nat → Int) (i : Nat) (h1 : 32 ≤ i) (h2 : i < 64) (h : Inv f i) : Inv (hh f i) (i - 1) := by
  have hc : ∀ k, hh f i k = if k = i then 0 else if k = i - 12 then f k + cc f i 20 else if i - 32 ≤ k ∧ k < i - 32 + 20 then zz f i (k - (i - 32)) else f k := by
    intro k
    unfold hh gg
    by_cases c1 : k = i
    · rw [if_pos c1, if_pos c1]
    · rw [if_neg c1, if_neg c1]
      by_cases c2 : k = i - 12
      · rw [if_pos c2, if_pos c2, if_neg (by omega)]
      · rw [if_neg c2, if_neg c2]
  have hz := fun t => zz_range f i t
  by_cases hi : i = 63
  · have hst := h.starts hi
    have hl := cc_last f i h.great 2200000 (fun t _ _ => hst _) (by omega)
    refine ⟨fun k => ?_, fun k hk => ?_, fun k hk _ hk2 => ?_, fun k hk _ hk2 hk3 => ?_, fun k hk => ?_, fun e => by omega⟩
    · rw [hc k]
      have := hst k
      have := hz (k - (i - 32))
      unfold MM
      split
      · omega
      · split
        · omega
        · split <;> omega
    · rw [hc k]
      by_cases c1 : k = i
      · rw [if_pos c1]
      · rw [if_neg c1, if_neg (by omega), if_neg (by omega)]
        exact h.none_ k (by omega)
    · rw [hc k, if_neg (by omega), if_neg (by omega), if_pos (by omega)]
      have := hz (k - (i - 32))
      omega
    · rw [hc k, if_neg (by omega), if_neg (by omega), if_pos (by omega)]
      exact hz _
    · rw [hc k, if_neg (by omega), if_neg (by omega), if_neg (by omega)]
      exact hst k
  · have hl : ∀ t, 16 ≤ t → t < 20 → -128 ≤ f (i - 32 + t) ∧ f (i - 32 + t) ≤ 128 := by
      intro t h3 h4
      have := h.low (i - 32 + t) (by omega) (by omega) (by omega) (by omega)
      omega
    have hl2 := cc_last f i h.great 128 hl (by omega)
    have hl3 : -2 ≤ cc f i 20 ∧ cc f i 20 ≤ 2 := by
      have c16 := cc_range f i h.great 16
      have e : ∀ t, 16 ≤ t → t < 20 → cc f i (t + 1) = (f (i - 32 + t) + cc f i t + 128) / 256 := by
        intro t h1 h2
        show (f (i - 32 + t) + (cc f i t - 16 * f i * lc t) + 128) / 256 = _
        rw [lc_mid t h1 (by omega), Int.mul_zero, Int.sub_zero]
      have e16 := e 16 (by omega) (by omega)
      have e17 := e 17 (by omega) (by omega)
      have e18 := e 18 (by omega) (by omega)
      have e19 := e 19 (by omega) (by omega)
      have b16 := hl 16 (by omega) (by omega)
      have b17 := hl 17 (by omega) (by omega)
      have b18 := hl 18 (by omega) (by omega)
      have b19 := hl 19 (by omega) (by omega)
      simp only [Nat.reduceAdd] at e16 e17 e18 e19
      generalize cc f i 16 = x16 at *
      generalize cc f i 17 = x17 at *
      generalize cc f i 18 = x18 at *
      generalize cc f i 19 = x19 at *
      generalize cc f i 20 = x20 at *
      omega
    refine ⟨fun k => ?_, fun k hk => ?_, fun k hk hk1 hk2 => ?_, fun k hk hk1 hk2 hk3 => ?_, fun k hk => ?_, fun e => by omega⟩
    · rw [hc k]
      have := h.great k
      have := hz (k - (i - 32))
      unfold MM at *
      split
      · omega
      · split
        · rename_i c
          have := h.low k (by omega) (by omega) (by omega) (by omega)
          omega
        · split <;> omega
    · rw [hc k]
      by_cases c1 : k = i
      · rw [if_pos c1]
      · rw [if_neg c1, if_neg (by omega), if_neg (by omega)]
        exact h.none_ k (by omega)
    · rw [hc k]
      by_cases c1 : k = i
      · rw [if_pos c1]; omega
      · rw [if_neg c1]
        by_cases c2 : k = i - 12
        · rw [if_pos c2]
          have := h.low k (by omega) (by omega) (by omega) (by omega)
          omega
        · rw [if_neg c2]
          by_cases c3 : i - 32 ≤ k ∧ k < i - 32 + 20
          · rw [if_pos c3]
            have := hz (k - (i - 32))
            omega
          · rw [if_neg c3]
            exact h.first k hk (by omega) (by omega)
    · rw [hc k, if_neg (by omega), if_neg (by omega), if_pos (by omega)]
      exact hz _
    · rw [hc k, if_neg (by omega), if_neg (by omega), if_neg (by omega)]
      exact h.start k (by omega)
end Go.Proofs.Ytbgcdfhnnmopdaa
