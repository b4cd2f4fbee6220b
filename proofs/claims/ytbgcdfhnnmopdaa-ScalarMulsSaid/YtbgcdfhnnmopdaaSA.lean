/- Small, L: the walks. -/
import Derived.Test.YtbgcdfhnnmopdaaS9
import Derived.Deep.CutRange
namespace Go.Proofs.Ytbgcdfhnnmopdaa
open Go.RowKit

def decs : List Int := [2, 7, 7, 4, 2, 3, 1, 7, 7, 7, 7, 3, 7, 2, 3, 5, 3, 5, 3, 5, 8, 5, 1, 9, 3, 7, 7, 9, 0, 8, 8, 3, 6, 4, 8, 4, 9, 3]
def pre : Nat → Int
  | 0 => 0
  | k + 1 => pre k * 10 + decs.getD k 0
theorem pre_end : pre 38 = sumTo lc 31 := by decide
theorem pre_range : ∀ k, k < 39 → 0 ≤ pre k ∧ pre k < 256 ^ 16 := by decide
theorem decs_range : ∀ k, k < 38 → 0 ≤ decs.getD k 0 ∧ decs.getD k 0 ≤ 9 := by decide

theorem rd64_new (w : World) (cs : List Int) (s : Nat) (hs : s = w.heap.size) (h : ∀ x ∈ cs, 0 ≤ x ∧ x ≤ 255) : Rd (w.alloc (.cells (cs.map (Value.int .i64)).toArray 3)) .i64 (some ⟨s, 0, none⟩) cs.length (fun i => cs.getD i 0) := by
  subst hs
  refine ⟨fun _ => ⟨w.heap.size, 0, rfl, by simp, fun i hi => ?_⟩, fun i => ?_⟩
  · rw [Nat.zero_add, cell_of_row _ _ i _ 3 (0, 0) (heap_alloc_new w _)]
    simp [List.getD, hi]
  · by_cases hi : i < cs.length
    · have := h cs[i] (List.getElem_mem hi)
      simpa [List.getD, hi] using this
    · simp [List.getD, List.getElem?_eq_none (show cs.length ≤ i by omega)]

def strS : ByteArray := ⟨#[50, 55, 55, 52, 50, 51, 49, 55, 55, 55, 55, 51, 55, 50, 51, 53, 51, 53, 51, 53, 56, 53, 49, 57, 51, 55, 55, 57, 48, 56, 56, 51, 54, 52, 56, 52, 57, 51]⟩
theorem strS_at : ∀ k, (h : k < 38) → ((strS[k]'h).toNat : Int) = 48 + decs.getD k 0 := by decide
theorem index_S (k : Nat) (h : k < 38) (w : World) : (Instr.index 9 (.string ⟨#[50, 55, 55, 52, 50, 51, 49, 55, 55, 55, 55, 51, 55, 50, 51, 53, 51, 53, 51, 53, 56, 53, 49, 57, 51, 55, 55, 57, 48, 56, 56, 51, 54, 52, 56, 52, 57, 51]⟩) (.int .i64 k)).run Try.prog w = .ok (.int .u8 (48 + decs.getD k 0)) w := by
  have e := run_index_string (P := Try.prog) w 9 strS .i64 (k : Int) Try.underlying9
  have hs : (0 : Int) ≤ (k : Int) ∧ (k : Int) < strS.size := ⟨by omega, by show (k : Int) < (38 : Nat); omega⟩
  rw [dif_pos hs] at e
  have e2 := strS_at k h
  exact e.trans (by show Result.ok (Value.int .u8 ((strS[k]'h).toNat : Int)) w = _; rw [e2])

/-- What Small tells. -/
def SmallP (w : World) (e : Ending) (w' : World) : Prop :=
  ∃ r n c f, e = .returned (.slice (some ⟨r, 0, none⟩) n c) ∧ w.heap.size ≤ r ∧ n ≤ 16 ∧ Rd w' .i64 (some ⟨r, 0, none⟩) n f ∧ sumTo f n = pre 38 ∧ Below w.heap.size w w'

def lenN : Value → Nat
  | .slice _ n _ => n
  | _ => 0
theorem pow_grow (q m : Nat) (h : m ≤ q) : (256 : Int) ^ m ≤ 256 ^ q := by
  obtain ⟨d, rfl⟩ := Nat.exists_eq_add_of_le h
  rw [Int.pow_add]
  have h1 : (0 : Int) < 256 ^ d := Int.pow_pos (by decide)
  have h2 : (0 : Int) < 256 ^ m := Int.pow_pos (by decide)
  have h3 : (256 : Int) ^ m * 1 ≤ 256 ^ m * 256 ^ d := Int.mul_le_mul_of_nonneg_left (by omega) (by omega)
  omega

/-- An own row at one of two places. -/
theorem times10 (A : Option Addr) (n c s : Nat) (f : Nat → Int) (X : Int) (w : World) (ha : Rd w .i64 A n f) (hb : Rd w .i64 (some ⟨s, 0, none⟩) 1 (fun i => [(10 : Int)].getD i 0)) (hn : n ≤ 16) (hX : sumTo f n = X) :
    Calls Try.prog 24 #[.slice A n c, .slice (some ⟨s, 0, none⟩) 1 1] w (OutN w (n + 1 + 1) (X * 10)) := by
  have := times_any A (some ⟨s, 0, none⟩) n c 1 1 f _ w ha hb (by omega) (by omega)
  rw [hX, show sumTo (fun i => [(10 : Int)].getD i 0) 1 = 10 by decide] at this
  exact this
theorem plus1 (r n s : Nat) (d X : Int) (g : Nat → Int) (w : World) (ha : Rd w .i64 (some ⟨r, 0, none⟩) (n + 1 + 1) g) (hb : Rd w .i64 (some ⟨s, 0, none⟩) 1 (fun i => [d].getD i 0)) (hn : n ≤ 16) (hX : sumTo g (n + 1 + 1) = X) :
    Calls Try.prog 23 #[.slice (some ⟨r, 0, none⟩) (n + 1 + 1) (n + 1 + 1), .slice (some ⟨s, 0, none⟩) 1 1] w (OutN w (n + 3) (X + d)) := by
  have := plus_any (some ⟨r, 0, none⟩) (some ⟨s, 0, none⟩) (n + 1 + 1) (n + 1 + 1) 1 1 g _ w ha hb (by omega) (by omega)
  rw [hX, show sumTo (fun i => [d].getD i 0) 1 = d by simp [sumTo], show max (n + 1 + 1) 1 + 1 = n + 3 by omega] at this
  exact this

set_option maxRecDepth 100000 in
set_option maxHeartbeats 4000000 in
theorem small_any (w : World) : Calls Try.prog 25 #[] w (SmallP w) := by
  go_enter Try.func25, Try.ntmps25
  go_wp2_with fail
  have R0 : Hid (Rd (w.alloc (.cells #[.int .i64 0] 3)) .i64 (some ⟨w.heap.size, 0, none⟩) 1 (fun i => [(0 : Int)].getD i 0)) := Lib.hid (rd64_new w [0] _ rfl (by decide))
  have B0 : Hid (Below w.heap.size w (w.alloc (.cells #[.int .i64 0] 3))) := Lib.hid ((Below.refl _ _).alloc (Nat.le_refl _) _)
  generalize w.alloc (.cells #[.int .i64 0] 3) = W0 at *
  go_loopw [2, 3] (fun v q wr => ∃ (k r n c : Nat) (f : Nat → Int), k ≤ 38 ∧ q = .int .i64 k ∧ v = .slice (some ⟨r, 0, none⟩) n c ∧ w.heap.size ≤ r ∧ 1 ≤ n ∧ n ≤ 16 ∧ n ≤ c ∧ Rd wr .i64 (some ⟨r, 0, none⟩) n f ∧ Hid (sumTo f n = pre k) ∧ Below w.heap.size w wr) (fun _ q _ => 38 - (intOf q).toNat)
  case atStart => exact ⟨0, _, 1, 1, _, by omega, rfl, rfl, Nat.le_refl _, by omega, by omega, by omega, R0.out, Lib.hid (by decide), B0.out⟩
  case round =>
    obtain ⟨k, r0, n, c, f, hk, rfl, rfl, hr0, hn1, hn2, hnc, hr, hs, hb⟩ := hrel
    by_cases hlt : k < 38
    · have k0 : (0 : Int) ≤ (k : Int) := by omega
      have k1 : (k : Int) < 38 := by omega
      have HR := Lib.hid hr
      have HB := Lib.hid hb
      clear hr hb
      go_upto_region 6 with fail
      have dr := decs_range k hlt
      have hix := index_S k hlt
      have hpk : Hid (pre (k + 1) = pre k * 10 + decs.getD k 0) := Lib.hid rfl
      generalize decs.getD k 0 = d at *
      have ws : IntKind.u8.wrap (48 + d - 48) = d := by rw [IntKind.wrap_u8]; omega
      have wi : IntKind.i64.wrap d = d := IntWalk.i64_in _ (by omega)
      have T10 : Hid (∀ (w : World) (s : Nat), s = w.heap.size → Rd (w.alloc (.cells #[.int .i64 10] 3)) .i64 (some ⟨s, 0, none⟩) 1 (fun i => [(10 : Int)].getD i 0)) := Lib.hid fun w s h => rd64_new w [10] s h (by decide)
      have TD : Hid (∀ (w : World) (s : Nat), s = w.heap.size → Rd (w.alloc (.cells #[.int .i64 d] 3)) .i64 (some ⟨s, 0, none⟩) 1 (fun i => [d].getD i 0)) := Lib.hid fun w s h => rd64_new w [d] s h (by simp; omega)
      have DR := Lib.hid dr
      clear dr
      have C1 := Lib.hid (times10 (some ⟨r0, 0, none⟩) n c wr.heap.size f (pre k) (wr.alloc (.cells #[.int .i64 10] 3)).drew (drew_rd (rd_alloc HR.out _)) (drew_rd (T10.out _ _ rfl)) hn2 hs.out)
      have C2 := Lib.hid (times10 (some ⟨r0, 0, none⟩) n c wr.heap.size f (pre k) ((wr.alloc (.cells #[.int .i64 10] 3)).alloc (.cells #[.int .i64 d] 3)).drew (drew_rd (rd_alloc (rd_alloc HR.out _) _)) (drew_rd (rd_alloc (T10.out _ _ rfl) _)) hn2 hs.out)
      have C3 := Lib.hid (times10 (some ⟨r0, 0, none⟩) n c (wr.heap.size + 1) f (pre k) ((wr.alloc (.cells #[.int .i64 d] 3)).alloc (.cells #[.int .i64 10] 3)).drew (drew_rd (rd_alloc (rd_alloc HR.out _) _)) (drew_rd (T10.out _ _ (World.size_alloc _ _).symm)) hn2 hs.out)
      have D2 := Lib.hid (drew_rd (TD.out (wr.alloc (.cells #[.int .i64 10] 3)) (wr.heap.size + 1) (World.size_alloc _ _).symm))
      have D3 := Lib.hid (drew_rd (rd_alloc (TD.out wr wr.heap.size rfl) (.cells #[.int .i64 10] 3)))
      go_cut [2] from 5 to 37 (fun v wr2 => ∃ (r3 : Nat) (g3 : Nat → Int) (N : Nat), N = n + 3 ∧ v = .slice (some ⟨r3, 0, none⟩) N N ∧ w.heap.size ≤ r3 ∧ Rd wr2 .i64 (some ⟨r3, 0, none⟩) N g3 ∧ Hid (sumTo g3 N = pre (k + 1)) ∧ Below w.heap.size w wr2)
      case first =>
       go_region_with (first
        | (go_at_call 24; (with_reducible refine C1.out.mono ?_); rintro e w2 ⟨r2, g2, rfl, _, s1, s2, s3, s4⟩; have E1 := Lib.hid (plus1 r2 n w2.heap.size d (pre k * 10) g2 (w2.alloc (.cells #[.int .i64 d] 3)) (rd_alloc (row_rdn s1 s2) _) (TD.out _ _ rfl) hn2 s3); have S4 := Lib.hid s4; clear s1 s2 s3 s4)
        | (go_at_call 24; (with_reducible refine C2.out.mono ?_); rintro e w2 ⟨r2, g2, rfl, _, s1, s2, s3, s4⟩; have E2 := Lib.hid (plus1 r2 n (wr.heap.size + 1) d (pre k * 10) g2 w2 (row_rdn s1 s2) (D2.out.below s4) hn2 s3); have S4 := Lib.hid s4; clear s1 s2 s3 s4)
        | (go_at_call 24; (with_reducible refine C3.out.mono ?_); rintro e w2 ⟨r2, g2, rfl, _, s1, s2, s3, s4⟩; have E2 := Lib.hid (plus1 r2 n wr.heap.size d (pre k * 10) g2 w2 (row_rdn s1 s2) (D3.out.below s4) hn2 s3); have S4 := Lib.hid s4; clear s1 s2 s3 s4)
        | (go_at_call 23; (with_reducible refine E2.out.mono ?_); rintro e w3 ⟨r3, g3, rfl, s0, s1, s2, s3, s4⟩; have S0 := Lib.hid s0; have R3 := Lib.hid (row_rdn s1 s2); have S3 := Lib.hid s3; have S5 := Lib.hid s4; clear s0 s1 s2 s3 s4)
        | (go_at_call 23; (with_reducible refine E1.out.mono ?_); rintro e w3 ⟨r3, g3, rfl, s0, s1, s2, s3, s4⟩; have S0 := Lib.hid s0; have R3 := Lib.hid (row_rdn s1 s2); have S3 := Lib.hid s3; have S5 := Lib.hid s4; clear s0 s1 s2 s3 s4))
       all_goals go_wp2_with fail
       all_goals go_meet
       all_goals (case rel => exact ⟨r3, g3, n + 3, rfl, rfl, by first | exact Nat.le_trans (arm_w (arm_al HB.out _).drew S4.out).size S0.out | exact Nat.le_trans (arm_al (arm_w (arm_al HB.out _).drew S4.out) _).size S0.out | exact Nat.le_trans (arm_w (arm_al (arm_al HB.out _) _).drew S4.out).size S0.out, R3.out, Lib.hid (S3.out.trans hpk.out.symm), by first | exact arm_w (arm_w (arm_al HB.out _).drew S4.out) S5.out | exact arm_w (arm_al (arm_w (arm_al HB.out _).drew S4.out) _) S5.out | exact arm_w (arm_w (arm_al (arm_al HB.out _) _).drew S4.out) S5.out⟩)
      case rest =>
       obtain ⟨r3, g3, N, hN, rfl, hr3, rc, sc, bc⟩ := hcut
       have RC := Lib.hid rc
       have BC := Lib.hid bc
       have hN2 : N ≤ 19 := by omega
       have hN1 : 1 ≤ N := by omega
       clear hN
       clear rc bc C1 C2 C3 D2 D3 T10 TD HR HB
       go_wp2_with fail
       go_loopw [2] (fun v wr2 => ∃ p : Nat, 1 ≤ p ∧ p ≤ N ∧ v = .slice (some ⟨r3, 0, none⟩) p N ∧ wr2 = wc ∧ Hid (sumTo g3 p = pre (k + 1))) (fun v _ => lenN v)
       case atStart => exact ⟨N, by omega, Nat.le_refl _, rfl, rfl, sc⟩
       case round =>
        obtain ⟨p, hp1, hpN, rfl, rfl, hsp⟩ := hrel
        have fin : p ≤ 16 → ∃ (k' r n c : Nat) (f : Nat → Int), k' ≤ 38 ∧ Value.int .i64 ((k : Int) + 1) = .int .i64 k' ∧ Value.slice (some ⟨r3, 0, none⟩) p N = .slice (some ⟨r, 0, none⟩) n c ∧ w.heap.size ≤ r ∧ 1 ≤ n ∧ n ≤ 16 ∧ n ≤ c ∧ Rd wr .i64 (some ⟨r, 0, none⟩) n f ∧ Hid (sumTo f n = pre k') ∧ Below w.heap.size w wr := fun h16 => ⟨k + 1, r3, p, N, g3, by omega, by go_num, rfl, hr3, hp1, h16, hpN, RC.out.short hpN, hsp, BC.out⟩
        have FIN := Lib.hid fin
        clear fin
        by_cases c1 : 1 < p
        · obtain ⟨q, hq⟩ : ∃ q, p = q + 1 := ⟨p - 1, by omega⟩
          obtain ⟨b, o, hbo, _, hcell⟩ := RC.out.1 (by omega)
          cases hbo
          have hx := hcell q (by omega)
          rw [Nat.zero_add] at hx
          have hrange := RC.out.2 q
          have hsum : Hid (sumTo g3 p = sumTo g3 q + g3 q * 256 ^ q) := Lib.hid (by rw [hq]; rfl)
          generalize hgx : g3 q = x at *
          clear hcell
          have wq : IntKind.i64.wrap ((p : Int) - 1) = (q : Int) := by rw [IntWalk.i64_in _ (by omega)]; omega
          have q0 : (0 : Int) ≤ (q : Int) := by omega
          have q1 : (q : Int) < (p : Int) := by omega
          have q2 : (q : Int) ≤ (N : Int) := by omega
          have QF : Hid (1 ≤ q ∧ q ≤ N ∧ q < p) := Lib.hid ⟨by omega, by omega, by omega⟩
          have c1i : (1 : Int) < (p : Int) := by omega
          by_cases c2 : x = 0
          · have e2 : (x == 0) = true := by simp only [beq_iff_eq]; exact c2
            have HQ : Hid (sumTo g3 q = pre (k + 1)) := Lib.hid (by have := hsum.out; rw [hsp.out, c2] at this; omega)
            clear c2 hq
            go_wp2_with fail
            go_roundw
            case rel => exact ⟨q, QF.out.1, QF.out.2.1, rfl, by trivial, HQ⟩
            case measure => exact QF.out.2.2
          · have e2 : (x == 0) = false := by simp only [beq_eq_false_iff_ne, ne_eq]; exact c2
            have F2 := Lib.hid (FIN.out (by
              have h1 := hsum.out
              have h2 := (pre_range (k + 1) (by omega)).2
              rw [hsp.out] at h1
              have h3 := (sumTo_digits g3 q (fun i _ => RC.out.2 i)).1
              have h4 : (0 : Int) < 256 ^ q := Int.pow_pos (by decide)
              have h5 : 1 * (256 : Int) ^ q ≤ x * 256 ^ q := Int.mul_le_mul_of_nonneg_right (by omega) (by omega)
              by_cases h6 : p ≤ 16
              · exact h6
              · exfalso
                have h7 := pow_grow q 16 (by omega)
                omega))
            clear c2 hq
            go_wp2_with fail
            go_roundw
            case rel => exact F2.out
            case measure => simp [intOf]; omega
        · have p1 : ¬ (1 : Int) < (p : Int) := by omega
          have F2 := Lib.hid (FIN.out (by omega))
          go_wp2_with fail
          go_roundw
          case rel => exact F2.out
          case measure => simp [intOf]; omega
    · have kn : ¬ (k : Int) < 38 := by omega
      have HS : Hid (sumTo f n = pre 38) := Lib.hid (by rw [hs.out, show k = 38 by omega])
      clear hlt hs
      go_wp2_with fail
      go_ret
      exact ⟨r0, n, c, f, rfl, hr0, hn2, hr, HS.out, hb⟩
end Go.Proofs.Ytbgcdfhnnmopdaa
