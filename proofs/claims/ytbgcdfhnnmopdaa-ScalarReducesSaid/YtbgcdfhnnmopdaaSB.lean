/- L: the walk; laws of Mod. -/
import Derived.Test.YtbgcdfhnnmopdaaSA
namespace Go.Proofs.Ytbgcdfhnnmopdaa
open Go.RowKit

theorem l_sum (f : Nat → Int) (n : Nat) (hn : n ≤ 16) : sumTo (fun q => if q = 31 then 16 else if q < n then f q else 0) 32 = sumTo f n + 16 * 256 ^ 31 := by
  have e : sumTo (fun q => if q = 31 then 16 else if q < n then f q else 0) 31 = sumTo (ext f n) 31 := sumTo_congr fun q hq => by
    rw [if_neg (by omega)]
    rfl
  show sumTo (fun q => if q = 31 then 16 else if q < n then f q else 0) 31 + 16 * 256 ^ 31 = _
  rw [e, ext_sum f n 31 (by omega)]
theorem l_end : pre 38 + 16 * 256 ^ 31 = LV := by decide
theorem l_step (f : Nat → Int) (k q : Nat) (hk : k < 31) (x : Int) (hx : f k = x) : (if q = 31 then 16 else if q < k + 1 then f q else 0) = if q = k then x else (if q = 31 then 16 else if q < k then f q else 0) := by
  by_cases c1 : q = 31
  · rw [if_pos c1, if_neg (by omega), if_pos c1]
  · rw [if_neg c1, if_neg c1, step_row f k q, hx]

set_option maxRecDepth 100000 in
set_option maxHeartbeats 4000000 in
theorem l_any (w : World) : Calls Try.prog 17 #[] w (OutN w 32 LV) := by
  have hmk : ∀ w : World, (Instr.makeSlice 30 (.int .i64 32) (.int .i64 32)).run Try.prog w = .ok (.slice (some ⟨w.heap.size, 0, none⟩) 32 32) (w.alloc (.cells (madeCells #[.int .i64 0] 32) 3)) := make_n 32 (by omega)
  go_enter Try.func17, Try.ntmps17
  go_upto_region 2 with fail
  have X0 : Hid (Row (w.alloc (.cells (madeCells #[.int .i64 0] 32) 3)) w.heap.size 3 .i64 32 (fun _ => 0)) := Lib.hid (World.rowIs_made w _ 32 3)
  have B0 : Hid (Below w.heap.size w (w.alloc (.cells (madeCells #[.int .i64 0] 32) 3))) := Lib.hid ((Below.refl _ _).alloc (Nat.le_refl _) _)
  generalize w.alloc (.cells (madeCells #[.int .i64 0] 32) 3) = W0 at *
  clear hmk
  have x31 := X0.out.cell (i := 31) (by omega)
  have fz := X0.out.frozen 31
  go_upto_region 3 with fail
  have X1 : Hid (Row (W0.setCell ⟨w.heap.size, 31, none⟩ (.int .i64 16)) w.heap.size 3 .i64 32 (fun q => if q = 31 then 16 else 0)) := Lib.hid (X0.out.set 31 16)
  have B1 : Hid (Below w.heap.size w (W0.setCell ⟨w.heap.size, 31, none⟩ (.int .i64 16))) := Lib.hid (B0.out.setCell (p := ⟨w.heap.size, 31, none⟩) (Nat.le_refl _) _)
  clear x31 fz
  generalize W0.setCell ⟨w.heap.size, 31, none⟩ (.int .i64 16) = W1 at *
  have SC := Lib.hid (small_any W1)
  go_upto_region 4 with (go_at_call 25; (with_reducible refine SC.out.mono ?_); rintro e w2 ⟨r1, n, c, f, rfl, s0, s1, s2, s3, s4⟩; have S0 := Lib.hid s0; have S2 := Lib.hid s2; have S3 := Lib.hid s3; have S4 := Lib.hid s4; clear s0 s2 s3 s4)
  have hne : r1 ≠ w.heap.size := by
    have h1 := X1.out.lt
    have h2 := S0.out
    omega
  have X2 := Lib.hid (X1.out.below S4.out X1.out.lt)
  have B2 := Lib.hid (arm_w B1.out S4.out)
  clear X0 B0 X1 B1 SC S4 S0
  go_wp2_with fail
  go_loopw [3] (fun q wr => ∃ k : Nat, k ≤ n ∧ q = .int .i64 k ∧ Row wr w.heap.size 3 .i64 32 (fun q => if q = 31 then 16 else if q < k then f q else 0) ∧ Only (fun b => b = w.heap.size) w2 wr) (fun q _ => n - (intOf q).toNat)
  case atStart => exact ⟨0, by omega, rfl, X2.out.congr (fun q _ => by rw [if_neg (Nat.not_lt_zero q)]), Only.refl _ _⟩
  case round =>
    obtain ⟨k, hk, rfl, hx, ho⟩ := hrel
    by_cases hlt : k < n
    · obtain ⟨b, o, hbo, _, hcell⟩ := S2.out.1 (by omega)
      cases hbo
      have x2 := ho.cell (hcell k hlt) (by show ¬ r1 = _; exact hne)
      rw [Nat.zero_add] at x2
      have x1 := hx.cell (i := k) (by omega)
      simp only [show ¬ k = 31 by omega, Nat.lt_irrefl, if_false] at x1
      have fz := hx.frozen k
      have hr := S2.out.2 k
      have HX := Lib.hid hx
      have HO := Lib.hid ho
      have ST : Hid (∀ q, (if q = 31 then 16 else if q < k + 1 then f q else 0) = if q = k then f k else (if q = 31 then 16 else if q < k then f q else 0)) := Lib.hid fun q => l_step f k q (by omega) _ rfl
      generalize f k = x at *
      have k0 : (0 : Int) ≤ (k : Int) := by omega
      have k1 : (k : Int) < 32 := by omega
      have k2 : (k : Int) < (n : Int) := by omega
      have wx : IntKind.i64.wrap (0 + x) = x := by rw [Int.zero_add]; exact IntWalk.i64_in _ (by omega)
      have wx2 : IntKind.i64.wrap x = x := IntWalk.i64_in _ (by omega)
      clear hx ho hcell
      go_wp2_with fail
      go_still_tail 12, (by kernel_rfl)
      go_wp2_with fail
      go_roundw
      case rel => exact ⟨k + 1, by omega, by go_num, (HX.out.setTo k x (fun q _ => ST.out q)).drew, (HO.out.setCell (p := ⟨w.heap.size, k, none⟩) (Or.inl rfl) _).drew⟩
      case measure => simp [intOf]; omega
    · have kn : ¬ (k : Int) < (n : Int) := by omega
      have HX := Lib.hid hx
      have HO := Lib.hid ho
      have hkn : k = n := by omega
      have hs : Hid (sumTo (fun q => if q = 31 then 16 else if q < k then f q else 0) 32 = LV) := Lib.hid (by rw [hkn, l_sum f n (by omega), S3.out, l_end])
      have hg : Hid (∀ i, 0 ≤ (fun q => if q = 31 then (16 : Int) else if q < k then f q else 0) i ∧ (fun q => if q = 31 then (16 : Int) else if q < k then f q else 0) i ≤ 255) := Lib.hid fun i => by
        have := S2.out.2 i
        dsimp only
        by_cases c1 : i = 31
        · rw [if_pos c1]; decide
        · rw [if_neg c1]
          by_cases c2 : i < k
          · rw [if_pos c2]; exact this
          · rw [if_neg c2]; decide
      clear hx ho hkn
      go_wp2_with fail
      go_ret
      exact ⟨_, _, rfl, Nat.le_refl _, HX.out, hg.out, hs.out, B2.out.trans (HO.out.below (B2.out.size) (fun k hk h => by omega))⟩

/-- The number of the d digits from digit j on. -/
def tp (a : Nat → Int) : Nat → Nat → Int
  | 0, _ => 0
  | d + 1, j => 256 * tp a d (j + 1) + a j
theorem tp_sum (a : Nat → Int) : ∀ d j, sumTo a (j + d) = tp a d j * 256 ^ j + sumTo a j
  | 0, j => by simp [tp]
  | d + 1, j => by
    have ih := tp_sum a d (j + 1)
    rw [show j + (d + 1) = j + 1 + d by omega, ih]
    show tp a d (j + 1) * 256 ^ (j + 1) + (sumTo a j + a j * 256 ^ j) = (256 * tp a d (j + 1) + a j) * 256 ^ j + sumTo a j
    rw [Int.pow_succ]
    grind
theorem tp_end (a : Nat → Int) (n : Nat) : tp a n 0 = sumTo a n := by
  have := tp_sum a n 0
  rw [Nat.zero_add] at this
  rw [this]
  simp [sumTo]
/-- Bit for bit: a number doubled, and the next bit of x. -/
def vb (T x : Int) : Nat → Int
  | 0 => T
  | k + 1 => 2 * vb T x k + x / 2 ^ (7 - k) % 2
theorem vb_end (T x : Int) (hx : 0 ≤ x ∧ x ≤ 255) : vb T x 8 = 256 * T + x := by
  simp only [vb, show (2 : Int) ^ (7 - 0) = 128 by decide, show (2 : Int) ^ (7 - 1) = 64 by decide, show (2 : Int) ^ (7 - 2) = 32 by decide, show (2 : Int) ^ (7 - 3) = 16 by decide, show (2 : Int) ^ (7 - 4) = 8 by decide, show (2 : Int) ^ (7 - 5) = 4 by decide, show (2 : Int) ^ (7 - 6) = 2 by decide, show (2 : Int) ^ (7 - 7) = 1 by decide]
  omega
theorem mod_less (V M R b : Int) (hM : 0 < M) (hR : R = V % M) (hb : 0 ≤ b ∧ b ≤ 1) (h : 2 * R + b < M) : 2 * R + b = (2 * V + b) % M := by
  have h0 := Int.emod_nonneg V (show M ≠ 0 by omega)
  have e : (2 * V + b) % M = (2 * R + b) % M := by
    have := Int.emod_def V M
    have e2 : 2 * V + b = 2 * R + b + M * (2 * (V / M)) := by grind
    rw [e2, Int.add_mul_emod_self_left]
  rw [e, Int.emod_eq_of_lt (by omega) h]
theorem mod_more (V M R b : Int) (hM : 0 < M) (hR : R = V % M) (hb : 0 ≤ b ∧ b ≤ 1) (h : M ≤ 2 * R + b) : 2 * R + b - M = (2 * V + b) % M := by
  have h0 := Int.emod_lt_of_pos V hM
  have e : (2 * V + b) % M = (2 * R + b - M) % M := by
    have := Int.emod_def V M
    have e2 : 2 * V + b = 2 * R + b - M + M * (2 * (V / M) + 1) := by grind
    rw [e2, Int.add_mul_emod_self_left]
  rw [e, Int.emod_eq_of_lt (by omega) (by omega)]
theorem pow2_range : ∀ k, k < 8 → (1 : Int) ≤ 2 ^ (7 - k) ∧ (2 : Int) ^ (7 - k) ≤ 128 ∧ ((2 : Int) ^ (7 - k) / 2 = 0 → k = 7) ∧ ((2 : Int) ^ (7 - k) / 2 ≠ 0 → (2 : Int) ^ (7 - k) / 2 = 2 ^ (7 - (k + 1))) := by decide
theorem cut33 (g : Nat → Int) (hg : ∀ i, 0 ≤ g i ∧ g i ≤ 255) (X : Int) (h : sumTo g 33 = X) (hX : X < 256 ^ 32) : sumTo g 32 = X := by
  have h1 := sumTo_digits g 32 (fun k _ => hg k)
  have h2 := hg 32
  have h3 : sumTo g 33 = sumTo g 32 + g 32 * 256 ^ 32 := rfl
  omega
end Go.Proofs.Ytbgcdfhnnmopdaa
