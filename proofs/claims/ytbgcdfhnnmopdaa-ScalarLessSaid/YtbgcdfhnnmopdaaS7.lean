/- Plus, Minus: the walks. -/
import Derived.Test.YtbgcdfhnnmopdaaS6
namespace Go.Proofs.Ytbgcdfhnnmopdaa
open Go.RowKit

theorem make_n (n : Nat) (hn : n ≤ 3000000) (w : World) : (Instr.makeSlice 30 (.int .i64 n) (.int .i64 n)).run Try.prog w = .ok (.slice (some ⟨w.heap.size, 0, none⟩) n n) (w.alloc (.cells (madeCells #[.int .i64 0] n) 3)) :=
  run_make_row' (P := Try.prog) 30 3 (.int .i64 0) 8 Try.underlying30 info3 rfl .i64 .i64 n (by omega) (by omega) w
/-- A row of a call's own, of n digits, of the number X. -/
def OutN (w0 : World) (n : Nat) (X : Int) (e : Ending) (w' : World) : Prop :=
  ∃ r g, e = .returned (.slice (some ⟨r, 0, none⟩) n n) ∧ w0.heap.size ≤ r ∧ Row w' r 3 .i64 n g ∧ (∀ i, 0 ≤ g i ∧ g i ≤ 255) ∧ sumTo g n = X ∧ Below w0.heap.size w0 w'
theorem row_rdn {w : World} {b : Nat} {t : TypeId} {k : IntKind} {n : Nat} {f : Nat → Int} (h : Row w b t k n f) (hf : ∀ i, 0 ≤ f i ∧ f i ≤ 255) : Rd w k (some ⟨b, 0, none⟩) n f :=
  ⟨fun _ => ⟨b, 0, rfl, h.lt, fun i hi => by rw [Nat.zero_add]; exact h.cell hi⟩, hf⟩
theorem step_row (g : Nat → Int) (k q : Nat) : (if q < k + 1 then g q else 0) = if q = k then g k else if q < k then g q else 0 := by
  by_cases c1 : q = k
  · rw [if_pos c1, if_pos (by omega), c1]
  · rw [if_neg c1]
    by_cases c2 : q < k
    · rw [if_pos c2, if_pos (by omega)]
    · rw [if_neg c2, if_neg (by omega)]
theorem tdiv_nonneg (v d : Int) (h : 0 ≤ v) : Int.tdiv v d = v / d := Int.tdiv_eq_ediv_of_nonneg h
theorem tmod_nonneg (v d : Int) (h : 0 ≤ v) : Int.tmod v d = v % d := Int.tmod_eq_emod_of_nonneg h

set_option maxRecDepth 100000 in
set_option maxHeartbeats 4000000 in
theorem plus_any (A B : Option Addr) (n1 c1 n2 c2 : Nat) (a b : Nat → Int) (w : World) (ha : Rd w .i64 A n1 a) (hb : Rd w .i64 B n2 b) (h1 : n1 ≤ 1000000) (h2 : n2 ≤ 1000000) :
    Calls Try.prog 23 #[.slice A n1 c1, .slice B n2 c2] w (OutN w (max n1 n2 + 1) (sumTo a n1 + sumTo b n2)) := by
  have HA := Lib.hid ha.1
  have HB := Lib.hid hb.1
  have RA := Lib.hid ha.2
  have RB := Lib.hid hb.2
  clear ha hb
  obtain ⟨S, hS⟩ : ∃ S : Nat → Int, S = fun i => ext a n1 i + ext b n2 i := ⟨_, rfl⟩
  by_cases hgt : n1 < n2
  · have g1 : (n1 : Int) < (n2 : Int) := by omega
    have hmx : max n1 n2 = n2 := by omega
    have hsum := plus_sum a b RA.out RB.out n1 n2 n2 (by omega) (by omega)
    rw [← hS] at hsum
    rw [hmx]
    have HSUM := Lib.hid hsum
    have SR : Hid (∀ i, S i = ext a n1 i + ext b n2 i) := Lib.hid fun i => by rw [hS]
    have CR : Hid (∀ i, 0 ≤ cy S 0 i ∧ cy S 0 i ≤ 1) := Lib.hid (cy_range S 0 0 1 (by omega) (fun i => by
      have := ext_range RA.out n1 i
      have := ext_range RB.out n2 i
      rw [SR.out i]
      omega))
    have hmk := make_n (n2 + 1) (by omega)
    have ec : ((n2 + 1 : Nat) : Int) = (n2 : Int) + 1 := by omega
    rw [ec] at hmk
    have wm : IntKind.i64.wrap ((n2 : Int) + 1) = (n2 : Int) + 1 := IntWalk.i64_in _ (by omega)
    clear hsum hS hmx ec
    go_enter Try.func23, Try.ntmps23
    go_wp2_with fail
    have X0 : Hid (Row (w.alloc (.cells (madeCells #[.int .i64 0] (n2 + 1)) 3)) w.heap.size 3 .i64 (n2 + 1) (fun _ => 0)) := Lib.hid (World.rowIs_made w _ (n2 + 1) 3)
    have B0 : Hid (Below w.heap.size w (w.alloc (.cells (madeCells #[.int .i64 0] (n2 + 1)) 3))) := Lib.hid ((Below.refl _ _).alloc (Nat.le_refl _) _)
    generalize w.alloc (.cells (madeCells #[.int .i64 0] (n2 + 1)) 3) = W0 at *
    clear hmk wm
    go_loopw [7, 8] (fun cv q wr => ∃ k : Nat, k ≤ n2 + 1 ∧ q = .int .i64 k ∧ cv = .int .i64 (cy S 0 k) ∧ Row wr w.heap.size 3 .i64 (n2 + 1) (fun q => if q < k then cd S 0 q else 0) ∧ Below w.heap.size w wr) (fun _ q _ => n2 + 1 - (intOf q).toNat)
    case atStart => exact ⟨0, by omega, rfl, rfl, X0.out.congr fun q _ => (if_neg (Nat.not_lt_zero q)).symm, B0.out⟩
    case round =>
      obtain ⟨k, hk, rfl, rfl, hx, hb⟩ := hrel
      by_cases hlt : k ≤ n2
      · have hcr := CR.out k
        have hcd : Hid (cd S 0 k = (cy S 0 k + S k) % 256) := Lib.hid rfl
        have hcn : Hid (cy S 0 (k + 1) = (cy S 0 k + S k) / 256) := Lib.hid rfl
        have hSk := SR.out k
        generalize cy S 0 k = cc at *
        have xo := hx.cell (i := k) (by omega)
        have fz := hx.frozen k
        have HX := Lib.hid hx
        have HBB := Lib.hid hb
        have k0 : (0 : Int) ≤ (k : Int) := by omega
        have km : (k : Int) ≤ (n2 : Int) := by omega
        have km1 : (k : Int) < (n2 : Int) + 1 := by omega
        have km2 : ¬ (n2 : Int) < (k : Int) := by omega
        clear hx
        by_cases q1 : k < n1
        · obtain ⟨b1, o1, rfl, hb1, hc1⟩ := HA.out (by omega)
          have x1 := (hb.cell (p := ⟨b1, o1 + k, none⟩) hb1).trans (hc1 k q1)
          have i1 : (k : Int) < (n1 : Int) := by omega
          have e1 : ext a n1 k = a k := if_pos q1
          have r1 := RA.out k
          generalize a k = x at *
          clear hc1
          by_cases q2 : k < n2
          · obtain ⟨b2, o2, rfl, hb2, hc2⟩ := HB.out (by omega)
            have x2 := (hb.cell (p := ⟨b2, o2 + k, none⟩) hb2).trans (hc2 k q2)
            have i2 : (k : Int) < (n2 : Int) := by omega
            have e2 : ext b n2 k = b k := if_pos q2
            have r2 := RB.out k
            generalize b k = y at *
            clear hc2
            have wa : IntKind.i64.wrap (cc + x) = cc + x := IntWalk.i64_in _ (by omega)
            have wb : IntKind.i64.wrap (cc + x + y) = cc + x + y := IntWalk.i64_in _ (by omega)
            have hv : cc + S k = cc + x + y := by omega
            have tm := tmod_nonneg (cc + x + y) 256 (by omega)
            have td := tdiv_nonneg (cc + x + y) 256 (by omega)
            have wq : IntKind.i64.wrap ((cc + x + y) % 256) = (cc + x + y) % 256 := IntWalk.i64_in _ (by omega)
            have wd : IntKind.i64.wrap ((cc + x + y) / 256) = (cc + x + y) / 256 := IntWalk.i64_in _ (by omega)
            have HV : Hid (cd S 0 k = (cc + x + y) % 256) := Lib.hid (by rw [hcd.out, hv])
            have HN : Hid (cy S 0 (k + 1) = (cc + x + y) / 256) := Lib.hid (by rw [hcn.out, hv])
            have wk : IntKind.i64.wrap ((k : Int) + 1) = (k : Int) + 1 := IntWalk.i64_in _ (by omega)
            clear hb hSk hv e1 e2 hcd hcn
            go_wp2_with fail
            go_roundw
            case rel => exact ⟨k + 1, by omega, by go_num, by first | rfl | (rw [HN.out]), HX.out.setTo k _ (fun q _ => by rw [step_row, HV.out]), HBB.out.setCell (p := ⟨w.heap.size, k, none⟩) (Nat.le_refl _) _⟩
            case measure => simp [intOf]; omega
          · exfalso; omega
        · have i1 : ¬ (k : Int) < (n1 : Int) := by omega
          have e1 : ext a n1 k = 0 := if_neg q1
          by_cases q2 : k < n2
          · obtain ⟨b2, o2, rfl, hb2, hc2⟩ := HB.out (by omega)
            have x2 := (hb.cell (p := ⟨b2, o2 + k, none⟩) hb2).trans (hc2 k q2)
            have i2 : (k : Int) < (n2 : Int) := by omega
            have e2 : ext b n2 k = b k := if_pos q2
            have r2 := RB.out k
            generalize b k = y at *
            clear hc2
            have wb : IntKind.i64.wrap (cc + y) = cc + y := IntWalk.i64_in _ (by omega)
            have hv : cc + S k = cc + y := by omega
            have tm := tmod_nonneg (cc + y) 256 (by omega)
            have td := tdiv_nonneg (cc + y) 256 (by omega)
            have wq : IntKind.i64.wrap ((cc + y) % 256) = (cc + y) % 256 := IntWalk.i64_in _ (by omega)
            have wd : IntKind.i64.wrap ((cc + y) / 256) = (cc + y) / 256 := IntWalk.i64_in _ (by omega)
            have HV : Hid (cd S 0 k = (cc + y) % 256) := Lib.hid (by rw [hcd.out, hv])
            have HN : Hid (cy S 0 (k + 1) = (cc + y) / 256) := Lib.hid (by rw [hcn.out, hv])
            have wk : IntKind.i64.wrap ((k : Int) + 1) = (k : Int) + 1 := IntWalk.i64_in _ (by omega)
            clear hb hSk hv e1 e2 hcd hcn
            go_wp2_with fail
            go_roundw
            case rel => exact ⟨k + 1, by omega, by go_num, by first | rfl | (rw [HN.out]), HX.out.setTo k _ (fun q _ => by rw [step_row, HV.out]), HBB.out.setCell (p := ⟨w.heap.size, k, none⟩) (Nat.le_refl _) _⟩
            case measure => simp [intOf]; omega
          · have i2 : ¬ (k : Int) < (n2 : Int) := by omega
            have e2 : ext b n2 k = 0 := if_neg q2
            have hv : cc + S k = cc := by omega
            have tm := tmod_nonneg (cc) 256 (by omega)
            have td := tdiv_nonneg (cc) 256 (by omega)
            have wq : IntKind.i64.wrap ((cc) % 256) = (cc) % 256 := IntWalk.i64_in _ (by omega)
            have wd : IntKind.i64.wrap ((cc) / 256) = (cc) / 256 := IntWalk.i64_in _ (by omega)
            have HV : Hid (cd S 0 k = (cc) % 256) := Lib.hid (by rw [hcd.out, hv])
            have HN : Hid (cy S 0 (k + 1) = (cc) / 256) := Lib.hid (by rw [hcn.out, hv])
            have wk : IntKind.i64.wrap ((k : Int) + 1) = (k : Int) + 1 := IntWalk.i64_in _ (by omega)
            clear hb hSk hv e1 e2 hcd hcn
            go_wp2_with fail
            go_roundw
            case rel => exact ⟨k + 1, by omega, by go_num, by first | rfl | (rw [HN.out]), HX.out.setTo k _ (fun q _ => by rw [step_row, HV.out]), HBB.out.setCell (p := ⟨w.heap.size, k, none⟩) (Nat.le_refl _) _⟩
            case measure => simp [intOf]; omega
      · have hkm : k = n2 + 1 := by omega
        subst hkm
        have HX := Lib.hid hx
        have HBB := Lib.hid hb
        have km : ¬ ((n2 : Int) + 1 ≤ (n2 : Int)) := by omega
        clear hx hb
        go_wp2_with fail
        go_ret
        exact ⟨w.heap.size, cd S 0, rfl, Nat.le_refl _, HX.out.congr (fun q hq => if_pos hq), cd_range S 0, HSUM.out, HBB.out⟩
  · have g1 : ¬ (n1 : Int) < (n2 : Int) := by omega
    have hmx : max n1 n2 = n1 := by omega
    have hsum := plus_sum a b RA.out RB.out n1 n2 n1 (by omega) (by omega)
    rw [← hS] at hsum
    rw [hmx]
    have HSUM := Lib.hid hsum
    have SR : Hid (∀ i, S i = ext a n1 i + ext b n2 i) := Lib.hid fun i => by rw [hS]
    have CR : Hid (∀ i, 0 ≤ cy S 0 i ∧ cy S 0 i ≤ 1) := Lib.hid (cy_range S 0 0 1 (by omega) (fun i => by
      have := ext_range RA.out n1 i
      have := ext_range RB.out n2 i
      rw [SR.out i]
      omega))
    have hmk := make_n (n1 + 1) (by omega)
    have ec : ((n1 + 1 : Nat) : Int) = (n1 : Int) + 1 := by omega
    rw [ec] at hmk
    have wm : IntKind.i64.wrap ((n1 : Int) + 1) = (n1 : Int) + 1 := IntWalk.i64_in _ (by omega)
    clear hsum hS hmx ec
    go_enter Try.func23, Try.ntmps23
    go_wp2_with fail
    have X0 : Hid (Row (w.alloc (.cells (madeCells #[.int .i64 0] (n1 + 1)) 3)) w.heap.size 3 .i64 (n1 + 1) (fun _ => 0)) := Lib.hid (World.rowIs_made w _ (n1 + 1) 3)
    have B0 : Hid (Below w.heap.size w (w.alloc (.cells (madeCells #[.int .i64 0] (n1 + 1)) 3))) := Lib.hid ((Below.refl _ _).alloc (Nat.le_refl _) _)
    generalize w.alloc (.cells (madeCells #[.int .i64 0] (n1 + 1)) 3) = W0 at *
    clear hmk wm
    go_loopw [7, 8] (fun cv q wr => ∃ k : Nat, k ≤ n1 + 1 ∧ q = .int .i64 k ∧ cv = .int .i64 (cy S 0 k) ∧ Row wr w.heap.size 3 .i64 (n1 + 1) (fun q => if q < k then cd S 0 q else 0) ∧ Below w.heap.size w wr) (fun _ q _ => n1 + 1 - (intOf q).toNat)
    case atStart => exact ⟨0, by omega, rfl, rfl, X0.out.congr fun q _ => (if_neg (Nat.not_lt_zero q)).symm, B0.out⟩
    case round =>
      obtain ⟨k, hk, rfl, rfl, hx, hb⟩ := hrel
      by_cases hlt : k ≤ n1
      · have hcr := CR.out k
        have hcd : Hid (cd S 0 k = (cy S 0 k + S k) % 256) := Lib.hid rfl
        have hcn : Hid (cy S 0 (k + 1) = (cy S 0 k + S k) / 256) := Lib.hid rfl
        have hSk := SR.out k
        generalize cy S 0 k = cc at *
        have xo := hx.cell (i := k) (by omega)
        have fz := hx.frozen k
        have HX := Lib.hid hx
        have HBB := Lib.hid hb
        have k0 : (0 : Int) ≤ (k : Int) := by omega
        have km : (k : Int) ≤ (n1 : Int) := by omega
        have km1 : (k : Int) < (n1 : Int) + 1 := by omega
        have km2 : ¬ (n1 : Int) < (k : Int) := by omega
        clear hx
        by_cases q1 : k < n1
        · obtain ⟨b1, o1, rfl, hb1, hc1⟩ := HA.out (by omega)
          have x1 := (hb.cell (p := ⟨b1, o1 + k, none⟩) hb1).trans (hc1 k q1)
          have i1 : (k : Int) < (n1 : Int) := by omega
          have e1 : ext a n1 k = a k := if_pos q1
          have r1 := RA.out k
          generalize a k = x at *
          clear hc1
          by_cases q2 : k < n2
          · obtain ⟨b2, o2, rfl, hb2, hc2⟩ := HB.out (by omega)
            have x2 := (hb.cell (p := ⟨b2, o2 + k, none⟩) hb2).trans (hc2 k q2)
            have i2 : (k : Int) < (n2 : Int) := by omega
            have e2 : ext b n2 k = b k := if_pos q2
            have r2 := RB.out k
            generalize b k = y at *
            clear hc2
            have wa : IntKind.i64.wrap (cc + x) = cc + x := IntWalk.i64_in _ (by omega)
            have wb : IntKind.i64.wrap (cc + x + y) = cc + x + y := IntWalk.i64_in _ (by omega)
            have hv : cc + S k = cc + x + y := by omega
            have tm := tmod_nonneg (cc + x + y) 256 (by omega)
            have td := tdiv_nonneg (cc + x + y) 256 (by omega)
            have wq : IntKind.i64.wrap ((cc + x + y) % 256) = (cc + x + y) % 256 := IntWalk.i64_in _ (by omega)
            have wd : IntKind.i64.wrap ((cc + x + y) / 256) = (cc + x + y) / 256 := IntWalk.i64_in _ (by omega)
            have HV : Hid (cd S 0 k = (cc + x + y) % 256) := Lib.hid (by rw [hcd.out, hv])
            have HN : Hid (cy S 0 (k + 1) = (cc + x + y) / 256) := Lib.hid (by rw [hcn.out, hv])
            have wk : IntKind.i64.wrap ((k : Int) + 1) = (k : Int) + 1 := IntWalk.i64_in _ (by omega)
            clear hb hSk hv e1 e2 hcd hcn
            go_wp2_with fail
            go_roundw
            case rel => exact ⟨k + 1, by omega, by go_num, by first | rfl | (rw [HN.out]), HX.out.setTo k _ (fun q _ => by rw [step_row, HV.out]), HBB.out.setCell (p := ⟨w.heap.size, k, none⟩) (Nat.le_refl _) _⟩
            case measure => simp [intOf]; omega
          · have i2 : ¬ (k : Int) < (n2 : Int) := by omega
            have e2 : ext b n2 k = 0 := if_neg q2
            have wa : IntKind.i64.wrap (cc + x) = cc + x := IntWalk.i64_in _ (by omega)
            have hv : cc + S k = cc + x := by omega
            have tm := tmod_nonneg (cc + x) 256 (by omega)
            have td := tdiv_nonneg (cc + x) 256 (by omega)
            have wq : IntKind.i64.wrap ((cc + x) % 256) = (cc + x) % 256 := IntWalk.i64_in _ (by omega)
            have wd : IntKind.i64.wrap ((cc + x) / 256) = (cc + x) / 256 := IntWalk.i64_in _ (by omega)
            have HV : Hid (cd S 0 k = (cc + x) % 256) := Lib.hid (by rw [hcd.out, hv])
            have HN : Hid (cy S 0 (k + 1) = (cc + x) / 256) := Lib.hid (by rw [hcn.out, hv])
            have wk : IntKind.i64.wrap ((k : Int) + 1) = (k : Int) + 1 := IntWalk.i64_in _ (by omega)
            clear hb hSk hv e1 e2 hcd hcn
            go_wp2_with fail
            go_roundw
            case rel => exact ⟨k + 1, by omega, by go_num, by first | rfl | (rw [HN.out]), HX.out.setTo k _ (fun q _ => by rw [step_row, HV.out]), HBB.out.setCell (p := ⟨w.heap.size, k, none⟩) (Nat.le_refl _) _⟩
            case measure => simp [intOf]; omega
        · have i1 : ¬ (k : Int) < (n1 : Int) := by omega
          have e1 : ext a n1 k = 0 := if_neg q1
          by_cases q2 : k < n2
          · exfalso; omega
          · have i2 : ¬ (k : Int) < (n2 : Int) := by omega
            have e2 : ext b n2 k = 0 := if_neg q2
            have hv : cc + S k = cc := by omega
            have tm := tmod_nonneg (cc) 256 (by omega)
            have td := tdiv_nonneg (cc) 256 (by omega)
            have wq : IntKind.i64.wrap ((cc) % 256) = (cc) % 256 := IntWalk.i64_in _ (by omega)
            have wd : IntKind.i64.wrap ((cc) / 256) = (cc) / 256 := IntWalk.i64_in _ (by omega)
            have HV : Hid (cd S 0 k = (cc) % 256) := Lib.hid (by rw [hcd.out, hv])
            have HN : Hid (cy S 0 (k + 1) = (cc) / 256) := Lib.hid (by rw [hcn.out, hv])
            have wk : IntKind.i64.wrap ((k : Int) + 1) = (k : Int) + 1 := IntWalk.i64_in _ (by omega)
            clear hb hSk hv e1 e2 hcd hcn
            go_wp2_with fail
            go_roundw
            case rel => exact ⟨k + 1, by omega, by go_num, by first | rfl | (rw [HN.out]), HX.out.setTo k _ (fun q _ => by rw [step_row, HV.out]), HBB.out.setCell (p := ⟨w.heap.size, k, none⟩) (Nat.le_refl _) _⟩
            case measure => simp [intOf]; omega
      · have hkm : k = n1 + 1 := by omega
        subst hkm
        have HX := Lib.hid hx
        have HBB := Lib.hid hb
        have km : ¬ ((n1 : Int) + 1 ≤ (n1 : Int)) := by omega
        clear hx hb
        go_wp2_with fail
        go_ret
        exact ⟨w.heap.size, cd S 0, rfl, Nat.le_refl _, HX.out.congr (fun q hq => if_pos hq), cd_range S 0, HSUM.out, HBB.out⟩
end Go.Proofs.Ytbgcdfhnnmopdaa
