/- Mod: the walk. -/
import Derived.Test.YtbgcdfhnnmopdaaSB
namespace Go.Proofs.Ytbgcdfhnnmopdaa
open Go.RowKit

/-- 32 digits of a number of a call's own, in a row of 33. -/
def ModP (w0 : World) (X : Int) (e : Ending) (w' : World) : Prop :=
  ∃ r g, e = .returned (.slice (some ⟨r, 0, none⟩) 32 33) ∧ w0.heap.size ≤ r ∧ Rd w' .i64 (some ⟨r, 0, none⟩) 32 g ∧ sumTo g 32 = X ∧ Below w0.heap.size w0 w'

theorem step_two (S g : Nat → Int) (k q : Nat) : (if q < k + 1 then S q else g q) = if q = k then S k else if q < k then S q else g q := by
  by_cases c1 : q = k
  · rw [if_pos c1, if_pos (by omega), c1]
  · rw [if_neg c1]
    by_cases c2 : q < k
    · rw [if_pos c2, if_pos (by omega)]
    · rw [if_neg c2, if_neg (by omega)]

set_option maxRecDepth 100000 in
set_option maxHeartbeats 4000000 in
theorem mod_any (A B : Option Addr) (n c cB : Nat) (a m : Nat → Int) (w : World) (ha : Rd w .i64 A n a) (hb : Rd w .i64 B 32 m) (hn : n ≤ 1000000) (hM : 0 < sumTo m 32) :
    Calls Try.prog 21 #[.slice A n c, .slice B 32 cB] w (ModP w (sumTo a n % sumTo m 32)) := by
  have hmk : ∀ w : World, (Instr.makeSlice 30 (.int .i64 33) (.int .i64 33)).run Try.prog w = .ok (.slice (some ⟨w.heap.size, 0, none⟩) 33 33) (w.alloc (.cells (madeCells #[.int .i64 0] 33) 3)) := make_n 33 (by omega)
  have HA := Lib.hid ha.1
  have RA := Lib.hid ha.2
  have HB := Lib.hid hb
  obtain ⟨M, hMd⟩ : ∃ M, M = sumTo m 32 := ⟨_, rfl⟩
  rw [← hMd] at hM ⊢
  have hM2 : M < 256 ^ 32 := by rw [hMd]; exact (sumTo_digits m 32 (fun k _ => hb.2 k)).2
  have HM := Lib.hid hM
  have HM2 := Lib.hid hM2
  have HMD := Lib.hid hMd
  have ws : IntKind.i64.wrap ((n : Int) - 1) = (n : Int) - 1 := IntWalk.i64_in _ (by omega)
  clear ha hb hM hMd hM2
  go_enter Try.func21, Try.ntmps21
  go_wp2_with fail
  have X0 : Hid (Row (w.alloc (.cells (madeCells #[.int .i64 0] 33) 3)) w.heap.size 3 .i64 33 (fun _ => 0)) := Lib.hid (World.rowIs_made w _ 33 3)
  have B0 : Hid (Below w.heap.size w (w.alloc (.cells (madeCells #[.int .i64 0] 33) 3))) := Lib.hid ((Below.refl _ _).alloc (Nat.le_refl _) _)
  generalize w.alloc (.cells (madeCells #[.int .i64 0] 33) 3) = W0 at *
  clear hmk ws
  go_loopw [5, 6] (fun rv q wr => ∃ (j d r : Nat) (g : Nat → Int), j + d = n ∧ q = .int .i64 ((j : Int) - 1) ∧ rv = .slice (some ⟨r, 0, none⟩) 33 33 ∧ w.heap.size ≤ r ∧ Row wr r 3 .i64 33 g ∧ Hid (∀ i, 0 ≤ g i ∧ g i ≤ 255) ∧ Hid (sumTo g 33 = tp a d j % M) ∧ Below w.heap.size w wr) (fun _ q _ => (intOf q + 1).toNat)
  case atStart => exact ⟨n, 0, _, _, by omega, rfl, rfl, Nat.le_refl _, X0.out, Lib.hid (fun _ => ⟨by decide, by decide⟩), Lib.hid (by rw [sumTo_zero]; show 0 = 0 % M; simp), B0.out⟩
  case round =>
    obtain ⟨j, d, r, g, hjd, rfl, rfl, hr, hx, hg, hs, hb⟩ := hrel
    match j, hjd, hs with
    | 0, hjd, hs =>
      have HX := Lib.hid (row_rdn hx hg.out)
      have HBB := Lib.hid hb
      have HS : Hid (sumTo g 32 = sumTo a n % M) := Lib.hid (cut33 g hg.out _ (by rw [hs.out, show d = n by omega, tp_end]) (by have := Int.emod_lt_of_pos (sumTo a n) HM.out; have := HM2.out; omega))
      clear hx hb hs hjd
      go_wp2_with fail
      go_ret
      exact ⟨r, g, rfl, hr, HX.out.short (by omega), HS.out, HBB.out⟩
    | i + 1, hjd, hs =>
      have ej : ((i + 1 : Nat) : Int) - 1 = (i : Int) := by omega
      rw [ej]
      have i0 : (0 : Int) ≤ (i : Int) := by omega
      have i1 : (i : Int) < (n : Int) := by omega
      obtain ⟨bA, oA, rfl, hbA, hcA⟩ := HA.out (by omega)
      have XA := Lib.hid (hcA i (by omega))
      have XR := Lib.hid (RA.out i)
      obtain ⟨T, hT⟩ : ∃ T, T = tp a d (i + 1) := ⟨_, rfl⟩
      rw [← hT] at hs
      have HT : Hid (vb T (a i) 8 = tp a (d + 1) i) := Lib.hid (by rw [vb_end T _ (RA.out i), hT]; rfl)
      clear hcA hT
      generalize a i = x at *
      have HX := Lib.hid hx
      have HBB := Lib.hid hb
      have wi : IntKind.i64.wrap ((i : Int) - 1) = (i : Int) - 1 := IntWalk.i64_in _ (by omega)
      clear hx hb ej
      go_wp2_with fail
      go_loopw [5, 7, 8] (fun rv dv q wr => ∃ (k r : Nat) (D : Int) (g : Nat → Int), k ≤ 8 ∧ q = .int .i64 k ∧ dv = .int .i64 D ∧ Hid (D = 2 ^ (7 - k)) ∧ rv = .slice (some ⟨r, 0, none⟩) 33 33 ∧ w.heap.size ≤ r ∧ Row wr r 3 .i64 33 g ∧ Hid (∀ i, 0 ≤ g i ∧ g i ≤ 255) ∧ Hid (sumTo g 33 = vb T x k % M) ∧ Below w.heap.size w wr) (fun _ _ q _ => 8 - (intOf q).toNat)
      case atStart => exact ⟨0, r, 128, g, by omega, rfl, rfl, Lib.hid (by decide), rfl, hr, HX.out, hg, hs, HBB.out⟩
      case round =>
        clear hr HX hg HBB
        obtain ⟨k, r, D, g, hk, rfl, rfl, hD, rfl, hr, hx, hg, hs, hb⟩ := hrel
        by_cases hlt : k < 8
        · have xa := (hb.cell (p := ⟨bA, oA + i, none⟩) hbA).trans XA.out
          have xr := XR.out
          have hp := pow2_range k hlt
          rw [← hD.out] at hp
          obtain ⟨qv, hqv⟩ : ∃ qv, qv = x / D := ⟨_, rfl⟩
          have hq1 : 0 ≤ qv ∧ qv ≤ 255 := by
            rw [hqv]
            have h1 : 0 ≤ x / D := Int.ediv_nonneg xr.1 (by omega)
            have h2 : x / D ≤ x := Int.ediv_le_self _ xr.1
            omega
          have td1 : Int.tdiv x D = qv := by rw [hqv]; exact tdiv_nonneg x D xr.1
          obtain ⟨b, hbit⟩ : ∃ b, b = qv % 2 := ⟨_, rfl⟩
          have hb1 : 0 ≤ b ∧ b ≤ 1 := by omega
          have tm1 : Int.tmod qv 2 = b := by rw [hbit]; exact tmod_nonneg qv 2 hq1.1
          obtain ⟨d2, hd2⟩ : ∃ d2, d2 = D / 2 := ⟨_, rfl⟩
          have hd3 : 0 ≤ d2 ∧ d2 ≤ 64 := by omega
          have td2 : Int.tdiv D 2 = d2 := by rw [hd2]; exact tdiv_nonneg D 2 (by omega)
          have w1 : IntKind.i64.wrap qv = qv := IntWalk.i64_in _ (by omega)
          have w2 : IntKind.i64.wrap b = b := IntWalk.i64_in _ (by omega)
          have w3 : IntKind.i64.wrap d2 = d2 := IntWalk.i64_in _ (by omega)
          have HV : Hid (vb T x (k + 1) = 2 * vb T x k + b) := Lib.hid (by rw [hbit, hqv, hD.out]; rfl)
          have dz : (D == 0) = false := by simp only [beq_eq_false_iff_ne, ne_eq]; omega
          have dn : ¬ D = 0 := by omega
          have k0 : (0 : Int) ≤ (k : Int) := by omega
          have k1 : (k : Int) < 8 := by omega
          have HX := Lib.hid hx
          have HBB := Lib.hid hb
          have HB1 := Lib.hid hb1
          have hp2 := hp.2.2.1
          have hp3 := hp.2.2.2
          rw [← hd2] at hp2 hp3
          clear hx hb hqv hbit hd2 hp hq1 hb1
          obtain ⟨D', hD', hcase⟩ : ∃ D' : Int, D' = 2 ^ (7 - (k + 1)) ∧ ((d2 = 0 ∧ D' = 1) ∨ (d2 ≠ 0 ∧ D' = d2)) := by
            by_cases e : d2 = 0
            · exact ⟨1, by rw [hp2 e]; decide, Or.inl ⟨e, rfl⟩⟩
            · exact ⟨d2, hp3 e, Or.inr ⟨e, rfl⟩⟩
          have HD' := Lib.hid hD'
          clear hp2 hp3 hD' hD
          have REST : Hid (∀ (g' : Nat → Int) (wr' : World) (r' : Nat), w.heap.size ≤ r' → Row wr' r' 3 .i64 33 g' → (∀ i, 0 ≤ g' i ∧ g' i ≤ 255) → sumTo g' 33 = (2 * vb T x k + b) % M → Below w.heap.size w wr' →
              ∃ (k_1 r : Nat) (D : Int) (g : Nat → Int), k_1 ≤ 8 ∧ Value.int .i64 ((k : Int) + 1) = .int .i64 k_1 ∧ Value.int .i64 D' = .int .i64 D ∧ Hid (D = 2 ^ (7 - k_1)) ∧ Value.slice (some ⟨r', 0, none⟩) 33 33 = .slice (some ⟨r, 0, none⟩) 33 33 ∧ w.heap.size ≤ r ∧ Row wr' r 3 .i64 33 g ∧ Hid (∀ i, 0 ≤ g i ∧ g i ≤ 255) ∧ Hid (sumTo g 33 = vb T x k_1 % M) ∧ Below w.heap.size w wr') := Lib.hid fun g' wr' r' h1 h2 h3 h4 h5 => ⟨k + 1, r', D', g', by omega, by go_num, rfl, HD', rfl, h1, h2, Lib.hid h3, Lib.hid (by rw [HV.out]; exact h4), h5⟩
          go_upto_if 36 with fail
          go_cut [7] from 22 to 63 (fun v wx => v = .int .i64 D' ∧ wx = wr)
          case first =>
            rcases hcase with ⟨e, rfl⟩ | ⟨e, rfl⟩
            · subst e
              go_wp2_with fail
              go_meet
              exact ⟨rfl, rfl⟩
            · have e2 : (D' == 0) = false := by simp only [beq_eq_false_iff_ne, ne_eq]; exact e
              go_wp2_with fail
              go_meet
              exact ⟨rfl, rfl⟩
          case rest =>
            obtain ⟨rfl, rfl⟩ := hcut
            clear hcase td1 tm1 td2 w1 w2 w3 dz dn xa xr hd3
            obtain ⟨S, hS⟩ : ∃ S : Nat → Int, S = fun i => 2 * g i := ⟨_, rfl⟩
            have SR : Hid (∀ i, S i = 2 * g i) := Lib.hid fun i => by rw [hS]
            have CR : Hid (∀ i, 0 ≤ cy S b i ∧ cy S b i ≤ 1) := Lib.hid (cy_range S b 0 1 HB1.out (fun i => by
              have := hg.out i
              rw [SR.out i]
              omega))
            have TW : Hid (sumTo (cd S b) 33 = 2 * (vb T x k % M) + b) := Lib.hid (by
              have h1 := Int.emod_lt_of_pos (vb T x k) HM.out
              have h2 := HM2.out
              have h3 := HB1.out
              have h4 := twice_sum g hg.out b HB1.out 33 (by
                rw [hs.out]
                have h5 : (256 : Int) ^ 33 = 256 ^ 32 * 256 := Int.pow_succ _ _
                omega)
              rw [hS, h4, hs.out])
            clear hS
            go_wp2_with fail
            go_loopw [10, 11] (fun cv q wr => ∃ j : Nat, j ≤ 33 ∧ q = .int .i64 j ∧ cv = .int .i64 (cy S b j) ∧ Row wr r 3 .i64 33 (fun q => if q < j then cd S b q else g q) ∧ Below w.heap.size w wr) (fun _ q _ => 33 - (intOf q).toNat)
            case atStart => exact ⟨0, by omega, rfl, rfl, HX.out.congr (fun q _ => (if_neg (Nat.not_lt_zero q)).symm), HBB.out⟩
            case round =>
              clear HX HBB
              obtain ⟨j, hj, rfl, rfl, hx, hb⟩ := hrel
              by_cases hlt2 : j < 33
              · have hcr := CR.out j
                have hcd : Hid (cd S b j = (cy S b j + S j) % 256) := Lib.hid rfl
                have hcn : Hid (cy S b (j + 1) = (cy S b j + S j) / 256) := Lib.hid rfl
                have hSj := SR.out j
                have hgj := hg.out j
                have xo := hx.cell (i := j) hlt2
                simp only [Nat.lt_irrefl, if_false] at xo
                have fz := hx.frozen j
                generalize cy S b j = cc at *
                have HX := Lib.hid hx
                have HBB := Lib.hid hb
                clear hx
                generalize g j = y at *
                have j0 : (0 : Int) ≤ (j : Int) := by omega
                have j1 : (j : Int) < 33 := by omega
                have wm : IntKind.i64.wrap (2 * y) = 2 * y := IntWalk.i64_in _ (by omega)
                have wv : IntKind.i64.wrap (2 * y + cc) = 2 * y + cc := IntWalk.i64_in _ (by omega)
                have tm := tmod_nonneg (2 * y + cc) 256 (by omega)
                have td := tdiv_nonneg (2 * y + cc) 256 (by omega)
                have wq : IntKind.i64.wrap ((2 * y + cc) % 256) = (2 * y + cc) % 256 := IntWalk.i64_in _ (by omega)
                have wd : IntKind.i64.wrap ((2 * y + cc) / 256) = (2 * y + cc) / 256 := IntWalk.i64_in _ (by omega)
                have HC : Hid (cd S b j = (2 * y + cc) % 256) := Lib.hid (by rw [hcd.out, hSj, Int.add_comm])
                have HN : Hid (cy S b (j + 1) = (2 * y + cc) / 256) := Lib.hid (by rw [hcn.out, hSj, Int.add_comm])
                clear hb hSj hcd hcn
                go_wp2_with fail
                go_roundw
                case rel => exact ⟨j + 1, by omega, by go_num, by first | rfl | (rw [HN.out]), HX.out.setTo j _ (fun q _ => by rw [step_two, HC.out]), HBB.out.setCell (p := ⟨r, j, none⟩) hr _⟩
                case measure => simp [intOf]; omega
              · have jn : ¬ (j : Int) < 33 := by omega
                have hx2 := hx.congr (g := cd S b) (fun q hq => if_pos (by omega))
                have RX := Lib.hid (row_rdn hx2 (cd_range S b))
                have HX := Lib.hid hx2
                have HBB := Lib.hid hb
                have RB := Lib.hid (HB.out.below hb)
                have cl := less_any (some ⟨r, 0, none⟩) B 33 33 32 cB (cd S b) m wr RX.out RB.out (by omega) (by omega)
                rw [TW.out, ← HMD.out] at cl
                by_cases hless : 2 * (vb T x k % M) + b < M
                · rw [decide_eq_true hless] at cl
                  have CL := Lib.hid cl
                  have FIN := Lib.hid (TW.out.trans (mod_less (vb T x k) M _ b HM.out rfl HB1.out hless))
                  clear hx hx2 hb cl hless
                  go_wp2_with (go_at_call 18; (with_reducible refine CL.out.mono ?_); rintro e w ⟨rfl, rfl⟩)
                  go_roundw
                  case rel => exact REST.out _ _ _ hr HX.out (cd_range S b) FIN.out HBB.out
                  case measure => simp [intOf]; omega
                · rw [decide_eq_false hless] at cl
                  have CL := Lib.hid cl
                  have FIN := Lib.hid (mod_more (vb T x k) M _ b HM.out rfl HB1.out (by omega))
                  have cm := minus_any (some ⟨r, 0, none⟩) B 33 33 32 cB (cd S b) m wr RX.out RB.out (by omega) (by omega) (by rw [TW.out, ← HMD.out]; omega)
                  rw [TW.out, ← HMD.out] at cm
                  have CM := Lib.hid cm
                  clear hx hx2 hb cl cm hless
                  go_wp2_with (first
                    | (go_at_call 18; (with_reducible refine CL.out.mono ?_); rintro e w ⟨rfl, rfl⟩)
                    | (go_at_call 27; (with_reducible refine CM.out.mono ?_); rintro e w3 ⟨r3, g3, rfl, s0, s1, s2, s3, s4⟩; have S0 := Lib.hid s0; have S1 := Lib.hid s1; have S2 := Lib.hid s2; have S3 := Lib.hid s3; have S4 := Lib.hid s4; clear s0 s1 s2 s3 s4))
                  go_roundw
                  case rel => exact REST.out g3 w3 r3 (Nat.le_trans HBB.out.size S0.out) S1.out S2.out (S3.out.trans FIN.out) (arm_w HBB.out S4.out)
                  case measure => simp [intOf]; omega
        · have kn : ¬ (k : Int) < 8 := by omega
          have HS : Hid (sumTo g 33 = tp a (d + 1) i % M) := Lib.hid (by rw [hs.out, show k = 8 by omega, HT.out])
          have HX := Lib.hid hx
          have HBB := Lib.hid hb
          clear hx hb hs
          go_wp2_with fail
          go_roundw
          case rel => exact ⟨i, d + 1, r, g, by omega, by go_num, rfl, hr, HX.out, hg, HS, HBB.out⟩
          case measure => first | (simp [intOf]; done) | (simp [intOf]; omega)
end Go.Proofs.Ytbgcdfhnnmopdaa
