/- Times: the walk. -/
import Derived.Test.YtbgcdfhnnmopdaaS8
namespace Go.Proofs.Ytbgcdfhnnmopdaa
open Go.RowKit

theorem pow_lt_of (k m : Nat) (h : (256 : Int) ^ k < 256 ^ m) : k < m := by
  by_cases c : m ≤ k
  · exfalso
    have e : (256 : Int) ^ k = 256 ^ m * 256 ^ (k - m) := by rw [← Int.pow_add, show m + (k - m) = k by omega]
    have p1 : (0 : Int) < 256 ^ m := Int.pow_pos (by omega)
    have p2 : (0 : Int) < 256 ^ (k - m) := Int.pow_pos (by omega)
    have := Int.mul_le_mul_of_nonneg_left (show (1 : Int) ≤ 256 ^ (k - m) by omega) (Int.le_of_lt p1)
    omega
  · omega
/-- One product more, with its carry. -/
theorem times_step (G : Nat → Int) (N p : Nat) (hp : p < N) (v c y : Int) (V : Int) (hv : v = G p + y + c) (h : sumTo G N + c * 256 ^ p = V) :
    sumTo (fun q => if q = p then v % 256 else G q) N + v / 256 * 256 ^ (p + 1) = V + y * 256 ^ p := by
  rw [sumTo_set G p _ N hp, Int.pow_succ]
  have e : v % 256 = v - 256 * (v / 256) := by omega
  rw [e]
  generalize v / 256 = d at *
  rw [hv, ← h]
  grind
theorem set_range (G : Nat → Int) (hG : ∀ q, 0 ≤ G q ∧ G q ≤ 255) (p : Nat) (v : Int) (q : Nat) : 0 ≤ (if q = p then v % 256 else G q) ∧ (if q = p then v % 256 else G q) ≤ 255 := by
  have := hG q
  split <;> omega
/-- While something is carried there is room. -/
theorem times_room (a b G : Nat → Int) (ha : ∀ i, 0 ≤ a i ∧ a i ≤ 255) (hb : ∀ i, 0 ≤ b i ∧ b i ≤ 255) (hG : ∀ i, 0 ≤ G i ∧ G i ≤ 255) (n2 i N k : Nat) (c : Int) (hc : 0 < c) (h : sumTo G N + c * 256 ^ k = sumTo a (i + 1) * sumTo b n2) : k < i + 1 + n2 := by
  have ra := sumTo_digits a (i + 1) (fun k _ => ha k)
  have rb := sumTo_digits b n2 (fun k _ => hb k)
  have rg := sumTo_digits G N (fun k _ => hG k)
  have pk : (0 : Int) < 256 ^ k := Int.pow_pos (by omega)
  refine pow_lt_of _ _ ?_
  rw [Int.pow_add 256 (i + 1) n2]
  have e1 := Int.mul_le_mul_of_nonneg_right (show 1 ≤ c by omega) (Int.le_of_lt pk)
  have e2 := Int.mul_le_mul_of_nonneg_right (Int.le_of_lt ra.2) rb.1
  have p1 : (0 : Int) < 256 ^ (i + 1) := Int.pow_pos (by omega)
  have e3 := Int.mul_lt_mul_of_pos_left rb.2 p1
  omega

set_option maxRecDepth 100000 in
set_option maxHeartbeats 4000000 in
theorem times_any (A B : Option Addr) (n1 c1 n2 c2 : Nat) (a b : Nat → Int) (w : World) (ha : Rd w .i64 A n1 a) (hb : Rd w .i64 B n2 b) (h1 : n1 ≤ 1000000) (h2 : n2 ≤ 1000000) :
    Calls Try.prog 24 #[.slice A n1 c1, .slice B n2 c2] w (OutN w (n1 + n2 + 1) (sumTo a n1 * sumTo b n2)) := by
  have HA := Lib.hid ha.1
  have HB := Lib.hid hb.1
  have RA := Lib.hid ha.2
  have RB := Lib.hid hb.2
  clear ha hb
  have hmk := make_n (n1 + n2 + 1) (by omega)
  rw [show ((n1 + n2 + 1 : Nat) : Int) = (n1 : Int) + (n2 : Int) + 1 by omega] at hmk
  have w1 : IntKind.i64.wrap ((n1 : Int) + (n2 : Int)) = (n1 : Int) + (n2 : Int) := IntWalk.i64_in _ (by omega)
  have w2 : IntKind.i64.wrap ((n1 : Int) + (n2 : Int) + 1) = (n1 : Int) + (n2 : Int) + 1 := IntWalk.i64_in _ (by omega)
  go_enter Try.func24, Try.ntmps24
  go_wp2_with fail
  have X0 : Hid (Row (w.alloc (.cells (madeCells #[.int .i64 0] (n1 + n2 + 1)) 3)) w.heap.size 3 .i64 (n1 + n2 + 1) (fun _ => 0)) := Lib.hid (World.rowIs_made w _ (n1 + n2 + 1) 3)
  have B0 : Hid (Below w.heap.size w (w.alloc (.cells (madeCells #[.int .i64 0] (n1 + n2 + 1)) 3))) := Lib.hid ((Below.refl _ _).alloc (Nat.le_refl _) _)
  generalize w.alloc (.cells (madeCells #[.int .i64 0] (n1 + n2 + 1)) 3) = W0 at *
  clear hmk w1 w2
  go_loopw [6] (fun q wr => ∃ (i : Nat) (G : Nat → Int), i ≤ n1 ∧ q = .int .i64 i ∧ Row wr w.heap.size 3 .i64 (n1 + n2 + 1) G ∧ Hid (∀ q, 0 ≤ G q ∧ G q ≤ 255) ∧ Hid (sumTo G (n1 + n2 + 1) = sumTo a i * sumTo b n2) ∧ Below w.heap.size w wr) (fun q _ => n1 - (intOf q).toNat)
  case atStart => exact ⟨0, fun _ => 0, by omega, rfl, X0.out, Lib.hid fun _ => ⟨Int.le_refl 0, show (0 : Int) ≤ 255 by decide⟩, Lib.hid (by rw [sumTo_zero]; simp [sumTo]), B0.out⟩
  case round =>
    obtain ⟨i, G, hi, rfl, hx, hg, hs, hb⟩ := hrel
    by_cases hlt : i < n1
    · have i0 : (0 : Int) ≤ (i : Int) := by omega
      have i1 : (i : Int) < (n1 : Int) := by omega
      obtain ⟨b1, o1, rfl, hb1, hc1⟩ := HA.out (by omega)
      have x1w := hc1 i hlt
      have X1 := Lib.hid x1w
      have r1 := RA.out i
      have hsa : Hid (sumTo a (i + 1) = sumTo a i + a i * 256 ^ i) := Lib.hid rfl
      generalize a i = x at *
      have HX := Lib.hid hx
      have HBB := Lib.hid hb
      clear hc1 x1w hx hb
      go_wp2_with fail
      go_loopw [7, 8, 9] (fun cv q u wr => ∃ (j : Nat) (G : Nat → Int) (cc : Int), j ≤ n2 ∧ q = .int .i64 j ∧ cv = .int .i64 cc ∧ (0 ≤ cc ∧ cc ≤ 255) ∧ Row wr w.heap.size 3 .i64 (n1 + n2 + 1) G ∧ Hid (∀ q, 0 ≤ G q ∧ G q ≤ 255) ∧ Hid (sumTo G (n1 + n2 + 1) + cc * 256 ^ (i + j) = sumTo a i * sumTo b n2 + x * 256 ^ i * sumTo b j) ∧ Below w.heap.size w wr) (fun _ q _ _ => n2 - (intOf q).toNat)
      case atStart => exact ⟨0, G, 0, by omega, rfl, rfl, by omega, HX.out, hg, Lib.hid (by rw [hs.out]; simp [sumTo]), HBB.out⟩
      case round =>
        obtain ⟨j, G, cc, hj, rfl, rfl, hcc, hx, hg, hs, hb⟩ := hrel
        by_cases hlt2 : j < n2
        · have j0 : (0 : Int) ≤ (j : Int) := by omega
          have j1 : (j : Int) < (n2 : Int) := by omega
          obtain ⟨b2, o2, rfl, hb2, hc2⟩ := HB.out (by omega)
          have x2 := (hb.cell (p := ⟨b2, o2 + j, none⟩) hb2).trans (hc2 j hlt2)
          have x1 := (hb.cell (p := ⟨b1, o1 + i, none⟩) hb1).trans X1.out
          have xo := hx.cell (i := i + j) (by omega)
          have fz := hx.frozen (i + j)
          have r2 := RB.out j
          have hsb : Hid (sumTo b (j + 1) = sumTo b j + b j * 256 ^ j) := Lib.hid rfl
          have rg := hg.out (i + j)
          generalize b j = y at *
          obtain ⟨gp, hgp⟩ : ∃ gp, gp = G (i + j) := ⟨_, rfl⟩
          rw [← hgp] at xo rg
          have HGP := Lib.hid hgp
          have r3 := mul_byte x y r1 r2
          have HX := Lib.hid hx
          have HBB := Lib.hid hb
          clear hx hb hc2 hgp
          have wij : IntKind.i64.wrap ((i : Int) + (j : Int)) = (i : Int) + (j : Int) := IntWalk.i64_in _ (by omega)
          have wxy : IntKind.i64.wrap (x * y) = x * y := IntWalk.i64_in _ (by omega)
          have wg : IntKind.i64.wrap (gp + x * y) = gp + x * y := IntWalk.i64_in _ (by omega)
          have wv : IntKind.i64.wrap (gp + x * y + cc) = gp + x * y + cc := IntWalk.i64_in _ (by omega)
          have ij0 : (0 : Int) ≤ (i : Int) + (j : Int) := by omega
          have ij1 : (i : Int) + (j : Int) < (n1 : Int) + (n2 : Int) + 1 := by omega
          have ij2 : ((i : Int) + (j : Int)).toNat = i + j := by omega
          go_wp2_with fail
          go_quiet (fail)
          obtain ⟨v, hv⟩ : ∃ v, v = gp + x * y + cc := ⟨_, rfl⟩
          rw [← hv]
          have hvr : 0 ≤ v ∧ v ≤ 65535 := by omega
          have HV := Lib.hid hv
          have tm := tmod_nonneg v 256 hvr.1
          have td := tdiv_nonneg v 256 hvr.1
          have wq : IntKind.i64.wrap (v % 256) = v % 256 := IntWalk.i64_in _ (by omega)
          have wd : IntKind.i64.wrap (v / 256) = v / 256 := IntWalk.i64_in _ (by omega)
          have wk : IntKind.i64.wrap ((j : Int) + 1) = (j : Int) + 1 := IntWalk.i64_in _ (by omega)
          clear hv wxy wg wv x1 x2 r3
          go_wp2_with fail
          go_roundw
          case rel =>
            refine ⟨j + 1, fun q => if q = i + j then v % 256 else G q, v / 256, by omega, by go_num, rfl, by omega, ?_, Lib.hid (set_range G hg.out (i + j) v), Lib.hid ?_, ?_⟩
            · exact (HX.out.setTo (i + j) (v % 256) (fun _ _ => rfl)).drewN nq
            · have e := times_step G (n1 + n2 + 1) (i + j) (by omega) v cc (x * y) _ (by rw [HV.out, HGP.out]) hs.out
              rw [show i + (j + 1) = i + j + 1 by omega, e, hsb.out, Int.pow_add 256 i j]
              grind
            · exact below_drewN (HBB.out.setCell (p := ⟨w.heap.size, i + j, none⟩) (Nat.le_refl _) _) nq
          case measure => simp [intOf]; omega
        · have hjn : j = n2 := by omega
          subst hjn
          have HX := Lib.hid hx
          have HBB := Lib.hid hb
          have HS : Hid (sumTo G (n1 + j + 1) + cc * 256 ^ (i + j) = sumTo a (i + 1) * sumTo b j) := Lib.hid (by
            rw [hs.out, hsa.out]
            grind)
          have wij : IntKind.i64.wrap ((i : Int) + (j : Int)) = (i : Int) + (j : Int) := IntWalk.i64_in _ (by omega)
          clear hx hb
          go_wp2_with fail
          go_loopw [7, 10, 11] (fun cv q u wr => ∃ (k : Nat) (G : Nat → Int) (cc : Int), k ≤ n1 + j ∧ q = .int .i64 k ∧ cv = .int .i64 cc ∧ (0 ≤ cc ∧ cc ≤ 255) ∧ Row wr w.heap.size 3 .i64 (n1 + j + 1) G ∧ Hid (∀ q, 0 ≤ G q ∧ G q ≤ 255) ∧ Hid (sumTo G (n1 + j + 1) + cc * 256 ^ k = sumTo a (i + 1) * sumTo b j) ∧ Below w.heap.size w wr) (fun _ q _ _ => n1 + j - (intOf q).toNat)
          case atStart => exact ⟨i + j, G, cc, by omega, by go_num, rfl, hcc, HX.out, hg, HS, HBB.out⟩
          case round =>
            obtain ⟨k, G, cc, hk, rfl, rfl, hcc, hx, hg, hs, hb⟩ := hrel
            by_cases hpos : 0 < cc
            · have hroom := times_room a b G RA.out RB.out hg.out j i (n1 + j + 1) k cc hpos hs.out
              have xo := hx.cell (i := k) (by omega)
              have fz := hx.frozen k
              have rg := hg.out k
              obtain ⟨gp, hgp⟩ : ∃ gp, gp = G k := ⟨_, rfl⟩
              rw [← hgp] at xo rg
              have HGP := Lib.hid hgp
              have HX := Lib.hid hx
              have HBB := Lib.hid hb
              have k0 : (0 : Int) ≤ (k : Int) := by omega
              have k1 : (k : Int) < (n1 : Int) + (j : Int) + 1 := by omega
              have wv : IntKind.i64.wrap (gp + cc) = gp + cc := IntWalk.i64_in _ (by omega)
              have tm := tmod_nonneg (gp + cc) 256 (by omega)
              have td := tdiv_nonneg (gp + cc) 256 (by omega)
              have wq : IntKind.i64.wrap ((gp + cc) % 256) = (gp + cc) % 256 := IntWalk.i64_in _ (by omega)
              have wd : IntKind.i64.wrap ((gp + cc) / 256) = (gp + cc) / 256 := IntWalk.i64_in _ (by omega)
              have wk : IntKind.i64.wrap ((k : Int) + 1) = (k : Int) + 1 := IntWalk.i64_in _ (by omega)
              clear hx hb hgp
              go_wp2_with fail
              go_roundw
              case rel =>
                refine ⟨k + 1, fun q => if q = k then (gp + cc) % 256 else G q, (gp + cc) / 256, by omega, by go_num, rfl, by omega, ?_, Lib.hid (set_range G hg.out k _), Lib.hid ?_, ?_⟩
                · exact HX.out.setTo k ((gp + cc) % 256) (fun _ _ => rfl)
                · have e := times_step G (n1 + j + 1) k (by omega) (gp + cc) cc 0 _ (by rw [HGP.out]; omega) hs.out
                  rw [e]
                  omega
                · exact HBB.out.setCell (p := ⟨w.heap.size, k, none⟩) (Nat.le_refl _) _
              case measure => simp [intOf]; omega
            · obtain rfl : cc = 0 := by omega
              have HX := Lib.hid hx
              have HBB := Lib.hid hb
              have wk : IntKind.i64.wrap ((i : Int) + 1) = (i : Int) + 1 := IntWalk.i64_in _ (by omega)
              clear hx hb
              go_wp2_with fail
              go_roundw
              case rel => exact ⟨i + 1, G, by omega, by go_num, HX.out, hg, Lib.hid (by have := hs.out; omega), HBB.out⟩
              case measure => simp [intOf]; omega
    · have him : i = n1 := by omega
      subst him
      have HX := Lib.hid hx
      have HBB := Lib.hid hb
      clear hx hb
      go_wp2_with fail
      go_ret
      exact ⟨w.heap.size, G, rfl, Nat.le_refl _, HX.out, hg.out, hs.out, HBB.out⟩
end Go.Proofs.Ytbgcdfhnnmopdaa
