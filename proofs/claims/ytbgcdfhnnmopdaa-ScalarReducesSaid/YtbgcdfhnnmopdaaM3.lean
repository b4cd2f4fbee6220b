/- The plain law of what is left, its end: the last carries; that what is left is the number modulo L. -/
import Derived.Test.YtbgcdfhnnmopdaaM2
namespace Go.Proofs.Ytbgcdfhnnmopdaa

/-- The digits when n have been worked off, from the 63rd on. -/
def runs (f : Nat → Int) : Nat → Nat → Int
  | 0 => f
  | n + 1 => hh (runs f n) (63 - n)

structure Start (f : Nat → Int) : Prop where
  range : ∀ k, -2200000 ≤ f k ∧ f k ≤ 2200000
  none_ : ∀ k, 63 < k → f k = 0

theorem runs_inv (f : Nat → Int) (h : Start f) : ∀ n, n ≤ 32 → Inv (runs f n) (63 - n)
  | 0, _ => ⟨fun k => by have := h.range k; unfold MM; exact ⟨by show _ ≤ f k; omega, by show f k ≤ _; omega⟩, h.none_, fun k _ hk => by omega, fun k _ hk => by omega, fun k _ => h.range k, fun _ k => h.range k⟩
  | n + 1, hn => by
    have ih := runs_inv f h n (by omega)
    have := inv_step (runs f n) (63 - n) (by omega) (by omega) ih
    rw [show 63 - (n + 1) = 63 - n - 1 by omega]
    exact this

theorem runs_sum (f : Nat → Int) : ∀ n, n ≤ 32 → ∃ q, sumTo (runs f n) 64 = sumTo f 64 - q * LV
  | 0, _ => ⟨0, by show sumTo f 64 = _; omega⟩
  | n + 1, hn => by
    obtain ⟨q, hq⟩ := runs_sum f n (by omega)
    refine ⟨q + 16 * 256 ^ (63 - n - 32) * runs f n (63 - n), ?_⟩
    show sumTo (hh (runs f n) (63 - n)) 64 = _
    rw [hh_sum _ _ (by omega) (by omega), hq]
    grind

theorem sumTo_tail (f : Nat → Int) (n : Nat) (h : ∀ k, n ≤ k → f k = 0) : ∀ m, sumTo f (n + m) = sumTo f n
  | 0 => rfl
  | m + 1 => by
    show sumTo f (n + m) + f (n + m) * 256 ^ (n + m) = _
    rw [sumTo_tail f n h m, h _ (by omega)]
    omega

theorem pow_pos256 (n : Nat) : (0 : Int) < 256 ^ n := Int.pow_pos (by decide)

theorem sumTo_range (f : Nat → Int) (B : Int) (n : Nat) (hB : ∀ k, k < n → -B ≤ f k ∧ f k ≤ B) : -(B * (256 ^ n - 1)) ≤ 255 * sumTo f n ∧ 255 * sumTo f n ≤ B * (256 ^ n - 1) := by
  induction n with
  | zero => simp [sumTo]
  | succ n ih =>
    have ih := ih (fun k hk => hB k (by omega))
    have hn := hB n (by omega)
    have hp := pow_pos256 n
    have a1 : f n * 256 ^ n ≤ B * 256 ^ n := Int.mul_le_mul_of_nonneg_right hn.2 (by omega)
    have a2 : -B * 256 ^ n ≤ f n * 256 ^ n := Int.mul_le_mul_of_nonneg_right hn.1 (by omega)
    have a3 : -B * 256 ^ n = -(B * 256 ^ n) := Int.neg_mul _ _
    have e : B * (256 ^ (n + 1) - 1) = 255 * (B * 256 ^ n) + B * (256 ^ n - 1) := by rw [Int.pow_succ]; grind
    unfold sumTo
    omega

theorem sumTo_digits (f : Nat → Int) (n : Nat) (h : ∀ k, k < n → 0 ≤ f k ∧ f k ≤ 255) : 0 ≤ sumTo f n ∧ sumTo f n < 256 ^ n := by
  induction n with
  | zero => simp [sumTo]
  | succ n ih =>
    have ih := ih (fun k hk => h k (by omega))
    have hn := h n (by omega)
    have hp := pow_pos256 n
    have a1 : f n * 256 ^ n ≤ 255 * 256 ^ n := Int.mul_le_mul_of_nonneg_right hn.2 (by omega)
    have a2 : 0 ≤ f n * 256 ^ n := Int.mul_nonneg hn.1 (by omega)
    have e : (256 : Int) ^ (n + 1) = 256 * 256 ^ n := by rw [Int.pow_succ]; omega
    unfold sumTo
    omega

/-- The carries of the third pass; its digits. -/
def dd (g : Nat → Int) (top : Int) : Nat → Int
  | 0 => 0
  | j + 1 => (g j + (dd g top j - top * lc j)) / 256
def ee (g : Nat → Int) (top : Int) (j : Nat) : Int := (g j + (dd g top j - top * lc j)) % 256
theorem dd_sum (g : Nat → Int) (top : Int) : ∀ n, sumTo (ee g top) n + dd g top n * 256 ^ n = sumTo g n - top * sumTo lc n
  | 0 => by simp [sumTo, dd]
  | n + 1 => by
    have ih := dd_sum g top n
    have e : ee g top n + 256 * dd g top (n + 1) = g n + (dd g top n - top * lc n) := by
      show (g n + (dd g top n - top * lc n)) % 256 + 256 * ((g n + (dd g top n - top * lc n)) / 256) = _
      omega
    unfold sumTo
    rw [Int.pow_succ]
    have e2 : (ee g top n + 256 * dd g top (n + 1)) * 256 ^ n = (g n + (dd g top n - top * lc n)) * 256 ^ n := by rw [e]
    grind

/-- The last pass: carries and bytes. -/
def ss (e : Nat → Int) : Nat → Int
  | 0 => 0
  | j + 1 => (e j + ss e j) / 256
def oo (e : Nat → Int) (j : Nat) : Int := (e j + ss e j) % 256
theorem ss_sum (e : Nat → Int) : ∀ n, sumTo (oo e) n + ss e n * 256 ^ n = sumTo e n
  | 0 => by simp [sumTo, ss]
  | n + 1 => by
    have ih := ss_sum e n
    have h : oo e n + 256 * ss e (n + 1) = e n + ss e n := by
      show (e n + ss e n) % 256 + 256 * ((e n + ss e n) / 256) = _
      omega
    unfold sumTo
    rw [Int.pow_succ]
    have e2 : (oo e n + 256 * ss e (n + 1)) * 256 ^ n = (e n + ss e n) * 256 ^ n := by rw [h]
    grind

/-- What is left: digits. -/
def fin (g : Nat → Int) (j : Nat) : Int := ee g (g 31 / 16) j - dd g (g 31 / 16) 32 * lc j
def outs (f : Nat → Int) (j : Nat) : Int := oo (fin (runs f 32)) j

theorem outs_range (f : Nat → Int) (j : Nat) : 0 ≤ outs f j ∧ outs f j ≤ 255 := by unfold outs oo; omega

theorem outs_val (f : Nat → Int) (h : Start f) : sumTo (outs f) 32 = sumTo f 64 % LV := by
  have inv := runs_inv f h 32 (by omega)
  obtain ⟨q, hq⟩ := runs_sum f 32 (by omega)
  generalize hg : runs f 32 = g at *
  have g31 : ∀ k, k < 32 → -130 ≤ g k ∧ g k ≤ 130 := fun k hk => inv.first k (by omega) (by omega) (by omega)
  have hz : sumTo g 64 = sumTo g 32 := sumTo_tail g 32 (fun k hk => inv.none_ k (by omega)) 32
  rw [hz] at hq
  have hR := sumTo_range g 130 31 (fun k hk => g31 k (by omega))
  have hd := dd_sum g (g 31 / 16) 32
  have he := sumTo_digits (ee g (g 31 / 16)) 32 (fun k _ => by unfold ee; omega)
  have ho := sumTo_digits (outs f) 32 (fun k _ => outs_range f k)
  have hs := ss_sum (fin g) 32
  have hfin : sumTo (fin g) 32 = sumTo (ee g (g 31 / 16)) 32 + (-dd g (g 31 / 16) 32) * LV := by
    rw [← lc_sum, ← sumTo_smul, ← sumTo_add]
    exact sumTo_congr fun k _ => by unfold fin; grind
  have hoo : sumTo (oo (fin g)) 32 = sumTo (outs f) 32 := by
    apply sumTo_congr
    intro k _
    unfold outs
    rw [hg]
  have h32 : sumTo g 32 = sumTo g 31 + g 31 * 256 ^ 31 := rfl
  rw [lc_sum] at hd
  rw [hoo, hfin] at hs
  have gr := g31 31 (by omega)
  have hLV : LV = 16 * 256 ^ 31 + 27742317777372353535851937790883648493 := by decide
  -- the top
  obtain ⟨top, htop⟩ : ∃ top, top = g 31 / 16 := ⟨_, rfl⟩
  rw [← htop] at hd he hs
  generalize sumTo (outs f) 32 = O at *
  generalize sumTo (ee g top) 32 = E at *
  generalize dd g top 32 = D at *
  generalize ss (fin g) 32 = S at *
  have htr : top * LV = 16 * 256 ^ 31 * top + 27742317777372353535851937790883648493 * top := by rw [hLV]; grind
  have hW : E + D * 256 ^ 32 = sumTo g 32 - top * LV := hd
  have hgt : g 31 * 256 ^ 31 = 16 * 256 ^ 31 * top + (g 31 - 16 * top) * 256 ^ 31 := by grind
  obtain ⟨r, hr⟩ : ∃ r, r = g 31 - 16 * top := ⟨_, rfl⟩
  rw [← hr] at hgt
  have hr0 : 0 ≤ r ∧ r ≤ 15 := by omega
  have htopr : -9 ≤ top ∧ top ≤ 8 := by omega
  generalize sumTo g 32 = V1 at *
  generalize sumTo g 31 = R at *
  generalize sumTo f 64 = V at *
  -- the number less the top's share
  obtain ⟨W, hWd⟩ : ∃ W, W = V1 - top * LV := ⟨_, rfl⟩
  rw [← hWd] at hW
  have hWr : W = r * 256 ^ 31 + R - 27742317777372353535851937790883648493 * top := by rw [hWd, h32, hgt, htr]; omega
  have p31 : (256 : Int) ^ 31 = 452312848583266388373324160190187140051835877600158453279131187530910662656 := by decide
  have p32 : (256 : Int) ^ 32 = 115792089237316195423570985008687907853269984665640564039457584007913129639936 := by decide
  have hlv : LV = 7237005577332262213973186563042994240857116359379907606001950938285454250989 := rfl
  rw [p31] at hR hWr
  rw [p32] at hW he ho hs
  have hWb : -LV < W ∧ W < LV := by rw [hlv]; omega
  have hD : D = 0 ∨ D = -1 := by rw [hlv] at hWb; omega
  have hV : V = W + (q + top) * LV := by rw [hWd]; grind
  have hO : (W + (if D = 0 then 0 else LV)) = O := by
    rcases hD with hD | hD
    · rw [hD] at hs hW ⊢
      rw [if_pos rfl]
      omega
    · rw [hD] at hs hW ⊢
      rw [if_neg (by decide)]
      rw [hlv] at hs hWb ⊢
      omega
  have hOr : 0 ≤ O ∧ O < LV := by
    rcases hD with hD | hD
    · rw [hD] at hO hW; rw [if_pos rfl] at hO; omega
    · rw [hD] at hO hW; rw [if_neg (by decide)] at hO; rw [hlv] at hO hWb ⊢; omega
  have hVO : V = O + (q + top - (if D = 0 then 0 else 1)) * LV := by
    rw [hV, ← hO]
    rcases hD with hD | hD
    · rw [hD, if_pos rfl, if_pos rfl]; grind
    · rw [hD, if_neg (by decide), if_neg (by decide)]; grind
  rw [hVO, Int.add_mul_emod_self_right, Int.emod_eq_of_lt hOr.1 hOr.2]
end Go.Proofs.Ytbgcdfhnnmopdaa
