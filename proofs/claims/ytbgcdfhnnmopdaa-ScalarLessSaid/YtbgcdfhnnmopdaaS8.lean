/- Minus: the walk. -/
import Derived.Test.YtbgcdfhnnmopdaaS7
namespace Go.Proofs.Ytbgcdfhnnmopdaa
open Go.RowKit

set_option maxRecDepth 100000 in
set_option maxHeartbeats 4000000 in
theorem minus_any (A B : Option Addr) (n1 c1 n2 c2 : Nat) (a b : Nat → Int) (w : World) (ha : Rd w .i64 A n1 a) (hb : Rd w .i64 B n2 b) (h1 : n1 ≤ 1000000) (h2 : n2 ≤ n1) (hle : sumTo b n2 ≤ sumTo a n1) :
    Calls Try.prog 27 #[.slice A n1 c1, .slice B n2 c2] w (OutN w n1 (sumTo a n1 - sumTo b n2)) := by
  have HA := Lib.hid ha.1
  have HB := Lib.hid hb.1
  have RA := Lib.hid ha.2
  have RB := Lib.hid hb.2
  clear ha hb
  have hsum := minus_sum a b RA.out n1 n2 h2 hle (sumTo_digits b n2 (fun k _ => RB.out k)).1
  obtain ⟨S, hS⟩ : ∃ S : Nat → Int, S = fun i => a i - ext b n2 i := ⟨_, rfl⟩
  rw [← hS] at hsum
  have HSUM := Lib.hid hsum
  have SR : Hid (∀ i, S i = a i - ext b n2 i) := Lib.hid fun i => by rw [hS]
  have CR : Hid (∀ i, -1 ≤ cy S 0 i ∧ cy S 0 i ≤ 0) := Lib.hid (cy_range S 0 (-1) 0 (by omega) (fun i => by
    have := RA.out i
    have := ext_range RB.out n2 i
    rw [SR.out i]
    omega))
  have hmk := make_n n1 (by omega)
  clear hsum hS hle
  go_enter Try.func27, Try.ntmps27
  go_wp2_with fail
  have X0 : Hid (Row (w.alloc (.cells (madeCells #[.int .i64 0] n1) 3)) w.heap.size 3 .i64 n1 (fun _ => 0)) := Lib.hid (World.rowIs_made w _ n1 3)
  have B0 : Hid (Below w.heap.size w (w.alloc (.cells (madeCells #[.int .i64 0] n1) 3))) := Lib.hid ((Below.refl _ _).alloc (Nat.le_refl _) _)
  generalize w.alloc (.cells (madeCells #[.int .i64 0] n1) 3) = W0 at *
  clear hmk
  go_loopw [6, 7] (fun cv q wr => ∃ k : Nat, k ≤ n1 ∧ q = .int .i64 k ∧ cv = .int .i64 (- cy S 0 k) ∧ Row wr w.heap.size 3 .i64 n1 (fun q => if q < k then cd S 0 q else 0) ∧ Below w.heap.size w wr) (fun _ q _ => n1 - (intOf q).toNat)
  case atStart => exact ⟨0, by omega, rfl, rfl, X0.out.congr fun q _ => (if_neg (Nat.not_lt_zero q)).symm, B0.out⟩
  case round =>
    obtain ⟨k, hk, rfl, rfl, hx, hb⟩ := hrel
    by_cases hlt : k < n1
    · have hcr := CR.out k
      have hcd : Hid (cd S 0 k = (cy S 0 k + S k) % 256) := Lib.hid rfl
      have hcn : Hid (cy S 0 (k + 1) = (cy S 0 k + S k) / 256) := Lib.hid rfl
      have hSk := SR.out k
      obtain ⟨cc, hcc⟩ : ∃ cc, cc = - cy S 0 k := ⟨_, rfl⟩
      have hcy : cy S 0 k = - cc := by omega
      rw [hcy] at hcr hcd hcn
      rw [← hcc]
      clear hcc hcy
      have xo := hx.cell (i := k) (by omega)
      have fz := hx.frozen k
      have HX := Lib.hid hx
      have HBB := Lib.hid hb
      obtain ⟨b1, o1, rfl, hb1, hc1⟩ := HA.out (by omega)
      have x1 := (hb.cell (p := ⟨b1, o1 + k, none⟩) hb1).trans (hc1 k hlt)
      have r1 := RA.out k
      generalize a k = x at *
      clear hc1
      have k0 : (0 : Int) ≤ (k : Int) := by omega
      have km1 : (k : Int) < (n1 : Int) := by omega
      have wa : IntKind.i64.wrap (x - cc) = x - cc := IntWalk.i64_in _ (by omega)
      have wk : IntKind.i64.wrap ((k : Int) + 1) = (k : Int) + 1 := IntWalk.i64_in _ (by omega)
      clear hx
      by_cases q2 : k < n2
      · obtain ⟨b2, o2, rfl, hb2, hc2⟩ := HB.out (by omega)
        have x2 := (hb.cell (p := ⟨b2, o2 + k, none⟩) hb2).trans (hc2 k q2)
        have i2 : (k : Int) < (n2 : Int) := by omega
        have e2 : ext b n2 k = b k := if_pos q2
        have r2 := RB.out k
        generalize b k = y at *
        clear hc2
        have wb : IntKind.i64.wrap (x - cc - y) = x - cc - y := IntWalk.i64_in _ (by omega)
        have hv : - cc + S k = x - cc - y := by omega
        have wp : IntKind.i64.wrap (x - cc - y + 256) = x - cc - y + 256 := IntWalk.i64_in _ (by omega)
        by_cases hneg : x - cc - y < 0
        · have HV : Hid (cd S 0 k = x - cc - y + 256) := Lib.hid (by rw [hcd.out, hv]; omega)
          have HN : Hid (- cy S 0 (k + 1) = 1) := Lib.hid (by rw [hcn.out, hv]; omega)
          clear hb hSk hv e2 hcd hcn
          go_wp2_with fail
          go_roundw
          case rel => exact ⟨k + 1, by omega, by go_num, by rw [HN.out], HX.out.setTo k _ (fun q _ => by rw [step_row, HV.out]), HBB.out.setCell (p := ⟨w.heap.size, k, none⟩) (Nat.le_refl _) _⟩
          case measure => simp [intOf]; omega
        · have HV : Hid (cd S 0 k = x - cc - y) := Lib.hid (by rw [hcd.out, hv]; omega)
          have HN : Hid (- cy S 0 (k + 1) = 0) := Lib.hid (by rw [hcn.out, hv]; omega)
          clear hb hSk hv e2 hcd hcn
          go_wp2_with fail
          go_roundw
          case rel => exact ⟨k + 1, by omega, by go_num, by rw [HN.out], HX.out.setTo k _ (fun q _ => by rw [step_row, HV.out]), HBB.out.setCell (p := ⟨w.heap.size, k, none⟩) (Nat.le_refl _) _⟩
          case measure => simp [intOf]; omega
      · have i2 : ¬ (k : Int) < (n2 : Int) := by omega
        have e2 : ext b n2 k = 0 := if_neg q2
        have hv : - cc + S k = x - cc := by omega
        have wp : IntKind.i64.wrap (x - cc + 256) = x - cc + 256 := IntWalk.i64_in _ (by omega)
        by_cases hneg : x - cc < 0
        · have HV : Hid (cd S 0 k = x - cc + 256) := Lib.hid (by rw [hcd.out, hv]; omega)
          have HN : Hid (- cy S 0 (k + 1) = 1) := Lib.hid (by rw [hcn.out, hv]; omega)
          clear hb hSk hv e2 hcd hcn
          go_wp2_with fail
          go_roundw
          case rel => exact ⟨k + 1, by omega, by go_num, by rw [HN.out], HX.out.setTo k _ (fun q _ => by rw [step_row, HV.out]), HBB.out.setCell (p := ⟨w.heap.size, k, none⟩) (Nat.le_refl _) _⟩
          case measure => simp [intOf]; omega
        · have HV : Hid (cd S 0 k = x - cc) := Lib.hid (by rw [hcd.out, hv]; omega)
          have HN : Hid (- cy S 0 (k + 1) = 0) := Lib.hid (by rw [hcn.out, hv]; omega)
          clear hb hSk hv e2 hcd hcn
          go_wp2_with fail
          go_roundw
          case rel => exact ⟨k + 1, by omega, by go_num, by rw [HN.out], HX.out.setTo k _ (fun q _ => by rw [step_row, HV.out]), HBB.out.setCell (p := ⟨w.heap.size, k, none⟩) (Nat.le_refl _) _⟩
          case measure => simp [intOf]; omega
    · have hkm : k = n1 := by omega
      subst hkm
      have HX := Lib.hid hx
      have HBB := Lib.hid hb
      clear hx hb
      go_wp2_with fail
      go_ret
      exact ⟨w.heap.size, cd S 0, rfl, Nat.le_refl _, HX.out.congr (fun q hq => if_pos hq), cd_range S 0, HSUM.out, HBB.out⟩
end Go.Proofs.Ytbgcdfhnnmopdaa
