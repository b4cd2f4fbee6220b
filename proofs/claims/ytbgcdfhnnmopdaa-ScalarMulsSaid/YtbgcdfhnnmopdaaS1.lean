/- L's bytes; what is left of a number: the walk. -/
import Derived.Test.YtbgcdfhnnmopdaaW
namespace Go.Proofs.Ytbgcdfhnnmopdaa
open Go.RowKit

/-- L's bytes, as an array's cells. -/
def lcells : Array Value := #[.int .i64 237, .int .i64 211, .int .i64 245, .int .i64 92, .int .i64 26, .int .i64 99, .int .i64 18, .int .i64 88, .int .i64 214, .int .i64 156, .int .i64 247, .int .i64 162, .int .i64 222, .int .i64 249, .int .i64 222, .int .i64 20, .int .i64 0, .int .i64 0, .int .i64 0, .int .i64 0, .int .i64 0, .int .i64 0, .int .i64 0, .int .i64 0, .int .i64 0, .int .i64 0, .int .i64 0, .int .i64 0, .int .i64 0, .int .i64 0, .int .i64 0, .int .i64 16]

theorem lcells_one : lcells.all (·.oneCell') = true := by decide +kernel
theorem info39 : (Try.prog.info? 39).map (·.size) = some lcells.size := by kernel_rfl
theorem there_new (w : World) (cs : Array Value) (t : TypeId) : (w.alloc (.cells cs t)).there w.heap.size 0 cs.size := fun j hj => by
  have b := Blk.new w t cs
  rw [Nat.zero_add]
  exact ⟨by rw [b.cell, Array.getElem?_eq_getElem hj]; rfl, b.frozen j⟩

set_option maxRecDepth 100000 in
set_option maxHeartbeats 1000000 in
theorem order_any (w : World) : Calls Try.prog 26 #[] w fun e w' => e = .returned (.agg lcells) ∧ Below w.heap.size w w' := by
  go_enter Try.func26, Try.ntmps26
  go_wp2_with (with_reducible refine wpList_store_mid rfl 39 (.tmp 0) (.tmp 1) rfl w.heap.size 0 lcells ?h1 ?h2 ?h3 ?h4 ?h5 ?h6)
  case h1 => rfl
  case h2 => rfl
  case h3 => exact there_new _ _ _
  case h4 => exact info39
  case h5 => exact lcells_one
  case h6 =>
    have b := Blk.setCells lcells.toList 0 _ _ (Blk.new w 39 #[.int .i64 0, .int .i64 0, .int .i64 0, .int .i64 0, .int .i64 0, .int .i64 0, .int .i64 0, .int .i64 0, .int .i64 0, .int .i64 0, .int .i64 0, .int .i64 0, .int .i64 0, .int .i64 0, .int .i64 0, .int .i64 0, .int .i64 0, .int .i64 0, .int .i64 0, .int .i64 0, .int .i64 0, .int .i64 0, .int .i64 0, .int .i64 0, .int .i64 0, .int .i64 0, .int .i64 0, .int .i64 0, .int .i64 0, .int .i64 0, .int .i64 0, .int .i64 0]) (by decide)
    rw [splice_all _ _ (by decide)] at b
    refine bodyPost_ret (v := .agg lcells) (results_cell_row (g := w.heap.size) (t := 39) (cs := lcells) (fr := (0, 0)) rfl _ _ _ rfl b Try.underlying39 rfl info39) rfl ⟨rfl, ?_⟩
    exact (Only.setCells (F := fun _ => False) (.inr (Nat.le_refl _)) _ _ _ ((Only.refl _ _).alloc _)).below (Nat.le_refl _) (fun _ _ x => x)

theorem lcells_at (t : Nat) (h : t < 32) : lcells[t]? = some (.int .i64 (lc t)) := by
  have : ∀ t, t < 32 → lcells[t]? = some (.int .i64 (lc t)) := by
    intro t h
    match t with
    | 0 | 1 | 2 | 3 | 4 | 5 | 6 | 7 | 8 | 9 | 10 | 11 | 12 | 13 | 14 | 15 | 16 | 17 | 18 | 19 | 20 | 21 | 22 | 23 | 24 | 25 | 26 | 27 | 28 | 29 | 30 | 31 => rfl
    | n + 32 => omega
  exact this t h

theorem gg_succ (F : Nat → Int) (k t j q : Nat) (hj : j = k - 32 + t) : gg F k (t + 1) q = if q = j then zz F k t else gg F k t q := by
  unfold gg
  by_cases c1 : q = j
  · rw [if_pos c1, if_pos (by omega), show q - (k - 32) = t by omega]
  · rw [if_neg c1]
    by_cases c2 : k - 32 ≤ q ∧ q < k - 32 + t
    · rw [if_pos c2, if_pos (by omega)]
    · rw [if_neg c2, if_neg (by omega)]

theorem hh_of (F : Nat → Int) (k q : Nat) : hh F k q = if q = k then 0 else if q = k - 12 then gg F k 20 (k - 12) + cc F k 20 else gg F k 20 q := by
  unfold hh
  by_cases c1 : q = k
  · rw [if_pos c1, if_pos c1]
  · rw [if_neg c1, if_neg c1]
    by_cases c2 : q = k - 12
    · rw [if_pos c2, if_pos c2, c2]
    · rw [if_neg c2, if_neg c2]

theorem dd_range (F : Nat → Int) (top : Int) (h : ∀ k, k < 32 → -130 ≤ F k ∧ F k ≤ 130) (ht : -9 ≤ top ∧ top ≤ 8) : ∀ j, j ≤ 32 → -11 ≤ dd F top j ∧ dd F top j ≤ 11
  | 0, _ => by unfold dd; omega
  | j + 1, hj => by
    have ih := dd_range F top h ht j (by omega)
    have a := h j (by omega)
    have b := lc_range j
    have c := mul_range top (lc j) 9 (by omega) (by omega) b.1 b.2
    show -11 ≤ (F j + (dd F top j - top * lc j)) / 256 ∧ (F j + (dd F top j - top * lc j)) / 256 ≤ 11
    omega
theorem fin_range (F : Nat → Int) (h : ∀ k, k < 32 → -130 ≤ F k ∧ F k ≤ 130) (j : Nat) : -4000 ≤ fin F j ∧ fin F j ≤ 4000 := by
  have a := h 31 (by omega)
  have d := dd_range F (F 31 / 16) h (by omega) 32 (by omega)
  have b := lc_range j
  have c := mul_range (dd F (F 31 / 16) 32) (lc j) 11 (by omega) (by omega) b.1 b.2
  unfold fin ee
  omega
theorem ss_range (F : Nat → Int) (h : ∀ k, k < 32 → -130 ≤ F k ∧ F k ≤ 130) : ∀ j, -20 ≤ ss (fin F) j ∧ ss (fin F) j ≤ 20
  | 0 => by unfold ss; omega
  | j + 1 => by
    have ih := ss_range F h j
    have a := fin_range F h j
    show -20 ≤ (fin F j + ss (fin F) j) / 256 ∧ (fin F j + ss (fin F) j) / 256 ≤ 20
    omega
theorem and_255 (y : Int) : bits .and .i64 y 255 = y % 256 := by
  show IntKind.i64.wrap ((BitVec.ofInt 64 y &&& BitVec.ofInt 64 255).toNat : Int) = _
  have e : (BitVec.ofInt 64 255) = BitVec.ofNat 64 (2 ^ 8 - 1) := by decide
  rw [BitVec.toNat_and, e, BitVec.toNat_ofNat, BitVec.toNat_ofInt]
  rw [show (2 ^ 8 - 1) % 2 ^ 64 = 2 ^ 8 - 1 by decide, Nat.and_two_pow_sub_one_eq_mod]
  rw [IntKind.wrap_i64]
  omega
theorem info5 : (Try.prog.info? 5).map (fun i => (i.zero, i.size, i.bytes)) = some (some (.int .u8 0), 1, 1) := by kernel_rfl
theorem make32 (w : World) : (Instr.makeSlice 22 (.int .i64 32) (.int .i64 32)).run Try.prog w = .ok (.slice (some ⟨w.heap.size, 0, none⟩) 32 32) (w.alloc (.cells (madeCells #[.int .u8 0] 32) 5)) :=
  run_make_row' (P := Try.prog) 22 5 (.int .u8 0) 1 Try.underlying22 info5 rfl .i64 .i64 32 (by omega) (by omega) w

set_option maxRecDepth 100000 in
set_option maxHeartbeats 4000000 in
theorem left_walk (xb : Nat) (f : Nat → Int) (w : World) (hrow : Row w xb 34 .i64 64 f) (hf : Start f) :
    Calls Try.prog 20 #[.pointer (some ⟨xb, 0, none⟩)] w fun e w' => ∃ r, e = .returned (.slice (some ⟨r, 0, none⟩) 32 32) ∧ w.heap.size ≤ r ∧ Row w' r 5 .u8 32 (outs f) ∧ Only (fun k => k = xb) w w' := by
  have HR := Lib.hid hrow
  have HF := Lib.hid hf
  have hx := hrow.lt
  clear hrow hf
  go_enter Try.func20, Try.ntmps20
  go_wp2_with (first | (go_at_call 26; refine (order_any _).mono ?_; rintro e w1 ⟨rfl, b1⟩; have B1 := Lib.hid b1; clear b1) | (with_reducible refine wpList_store_mid rfl 39 (.tmp 3) (.tmp 13) rfl w1.heap.size 0 lcells rfl rfl (there_new _ _ _) info39 lcells_one ?_))
  have hW : ∃ W0, W0 = (w1.alloc (Obj.cells #[.int .i64 0, .int .i64 0, .int .i64 0, .int .i64 0, .int .i64 0, .int .i64 0, .int .i64 0, .int .i64 0, .int .i64 0, .int .i64 0, .int .i64 0, .int .i64 0, .int .i64 0, .int .i64 0, .int .i64 0, .int .i64 0, .int .i64 0, .int .i64 0, .int .i64 0, .int .i64 0, .int .i64 0, .int .i64 0, .int .i64 0, .int .i64 0, .int .i64 0, .int .i64 0, .int .i64 0, .int .i64 0, .int .i64 0, .int .i64 0, .int .i64 0, .int .i64 0] 39)).setCells w1.heap.size 0 lcells.toList := ⟨_, rfl⟩
  obtain ⟨W0, hW⟩ := hW
  rw [← hW]
  have hw1 : w.heap.size ≤ w1.heap.size := B1.out.size
  have L0 : Hid (Row W0 w1.heap.size 39 .i64 32 lc) := by
    have b := Blk.setCells lcells.toList 0 _ _ (Blk.new w1 39 #[.int .i64 0, .int .i64 0, .int .i64 0, .int .i64 0, .int .i64 0, .int .i64 0, .int .i64 0, .int .i64 0, .int .i64 0, .int .i64 0, .int .i64 0, .int .i64 0, .int .i64 0, .int .i64 0, .int .i64 0, .int .i64 0, .int .i64 0, .int .i64 0, .int .i64 0, .int .i64 0, .int .i64 0, .int .i64 0, .int .i64 0, .int .i64 0, .int .i64 0, .int .i64 0, .int .i64 0, .int .i64 0, .int .i64 0, .int .i64 0, .int .i64 0, .int .i64 0]) (by decide)
    rw [splice_all _ _ (by decide)] at b
    rw [hW]
    exact ⟨lcells, b, by decide, fun i hi => lcells_at i hi⟩
  have O0 : Hid (Only (fun _ => False) w W0) := by
    rw [hW]
    exact Only.setCells (.inr hw1) _ _ _ ((Only.of_below B1.out).alloc _)
  have X0 : Hid (Row W0 xb 34 .i64 64 f) := HR.out.only O0.out id
  have hlb : w.heap.size ≤ w1.heap.size := hw1
  clear hW hw1 B1
  generalize w1.heap.size = lb at *
  have hxl : xb ≠ lb := by omega
  go_loopw [4] (fun i wr => ∃ n k : Nat, n ≤ 32 ∧ k + n = 63 ∧ i = .int .i64 k ∧ Row wr xb 34 .i64 64 (runs f n) ∧ Row wr lb 39 .i64 32 lc ∧ Only (fun k => k = xb) w wr) (fun i _ => (intOf i).toNat)
  case atStart => exact ⟨0, 63, by omega, by omega, rfl, X0.out, L0.out, O0.out.mono fun _ _ h => h.elim⟩
  case round =>
    obtain ⟨n, k, hn, hkn, rfl, hx1, hl1, ho1⟩ := hrel
    obtain ⟨wo, rfl⟩ : ∃ wo : World, wo = wr := ⟨_, rfl⟩
    have hinv := runs_inv f HF.out n hn
    have hk63 : 63 - n = k := by omega
    rw [hk63] at hinv
    have HI := Lib.hid hinv
    have HX1 := Lib.hid hx1
    have HL1 := Lib.hid hl1
    have HO1 := Lib.hid ho1
    have HK := Lib.hid hkn
    clear hx1 hl1 ho1 hk63 hinv hkn
    generalize hF : runs f n = F at *
    by_cases hge : 32 ≤ k
    · have hk64 : k ≤ 63 := by have := HK.out; omega
      have hgd : decide ((32 : Int) ≤ (k : Int)) = true := by simp; omega
      go_wp2_with fail
      go_loopw [5, 6] (fun c j wr2 => ∃ t j' : Nat, t ≤ 20 ∧ j' = k - 32 + t ∧ j = .int .i64 j' ∧ c = .int .i64 (cc F k t) ∧ Row wr2 xb 34 .i64 64 (gg F k t) ∧ Row wr2 lb 39 .i64 32 lc ∧ Only (fun k => k = xb) wo wr2) (fun _ j _ => k - 12 - (intOf j).toNat)
      case atStart => exact ⟨0, k - 32, by omega, by omega, by go_num, rfl, HX1.out.congr (fun i _ => by unfold gg; rw [if_neg (by omega)]), HL1.out, Only.refl _ _⟩
      case round =>
        obtain ⟨t, j, ht, hj, rfl, rfl, hx2, hl2, ho2⟩ := hrel
        by_cases hlt : t < 20
        · have xj := hx2.cell (i := j) (by omega)
          have xi := hx2.cell (i := k) (by omega)
          have xl := hl2.cell (i := j - (k - 32)) (by omega)
          have fz := hx2.frozen j
          have g1 : gg F k t j = F (k - 32 + t) := by unfold gg; rw [if_neg (by omega), hj]
          have g2 : gg F k t k = F k := by unfold gg; rw [if_neg (by omega)]
          have g3 : j - (k - 32) = t := by omega
          rw [g1] at xj
          rw [g2] at xi
          have b1 := HI.out.great (k - 32 + t)
          have b2 := HI.out.great k
          have b3 := lc_range t
          have b4 := mul_range (F k) (lc t) MM b2.1 b2.2 b3.1 b3.2
          have b5 := cc_range F k HI.out.great t
          have b6 := yy_range F k t HI.out.great
          have hjk : k - 32 ≤ j := by omega
          have hj20 : j < k - 32 + 20 := by omega
          have HJ := Lib.hid hj
          have HX2 := Lib.hid hx2
          have HL2 := Lib.hid hl2
          have HO2 := Lib.hid ho2
          have HZ := Lib.hid (And.intro g1 (And.intro g2 g3))
          clear hj g1 g2 hx2 hl2 ho2
          rw [g3] at xl
          obtain ⟨y, hy⟩ : ∃ y, y = yy F k t := ⟨_, rfl⟩
          rw [← hy] at b6
          have hy2 : y = F (k - 32 + t) + (cc F k t - 16 * F k * lc t) := hy
          have hc2 : cc F k (t + 1) = (y + 128) / 256 := by rw [cc_succ, hy]
          have hz2 : zz F k t = y - 256 * cc F k (t + 1) := by unfold zz; rw [hy]
          have HY := Lib.hid (And.intro hy2 (And.intro hc2 hz2))
          clear hy hc2 hz2
          unfold MM at b1 b2 b4
          generalize F (k - 32 + t) = vj at *
          generalize F k = vi at *
          generalize lc t = vl at *
          generalize cc F k t = c at *
          have p0 : 16 * vi * vl = 16 * (vi * vl) := Int.mul_assoc _ _ _
          have w1 : IntKind.i64.wrap (16 * vi) = 16 * vi := IntWalk.i64_in _ (by omega)
          have w2 : IntKind.i64.wrap (16 * vi * vl) = 16 * vi * vl := IntWalk.i64_in _ (by rw [p0]; omega)
          have w3 : IntKind.i64.wrap (c - 16 * vi * vl) = c - 16 * vi * vl := IntWalk.i64_in _ (by rw [p0]; omega)
          have w4 : IntKind.i64.wrap (vj + (c - 16 * vi * vl)) = y := by rw [← hy2]; exact IntWalk.i64_in _ (by omega)
          have e1 : IntKind.i64.wrap ((k : Int) - 32) = (k : Int) - 32 := IntWalk.i64_in _ (by omega)
          have e2 : IntKind.i64.wrap ((j : Int) - ((k : Int) - 32)) = (t : Int) := by rw [IntWalk.i64_in _ (by omega)]; omega
          have t0 : (0 : Int) ≤ (t : Int) := by omega
          have t1 : (t : Int) < 32 := by omega
          have j0 : (0 : Int) ≤ (j : Int) := by omega
          have j1 : (j : Int) < 64 := by omega
          have k0 : (0 : Int) ≤ (k : Int) := by omega
          have k1 : (k : Int) < 64 := by omega
          clear hy2 p0
          go_wp2_with fail
          go_still_tail 23, (by kernel_rfl)
          go_wp2_with fail
          obtain ⟨W3, hW3⟩ : ∃ W3, W3 = (wr.setCell ⟨xb, j, none⟩ (.int .i64 y)).drew := ⟨_, rfl⟩
          rw [← hW3]
          have HX3 := Lib.hid (show Row W3 xb 34 .i64 64 (fun q => if q = j then y else gg F k t q) from by rw [hW3]; exact (HX2.out.set j y).drew)
          have HL3 := Lib.hid (show Row W3 lb 39 .i64 32 lc from by rw [hW3]; exact (HL2.out.far (a := ⟨xb, j, none⟩) (Ne.symm hxl) _).drew)
          have HO3 := Lib.hid (show Only (fun k => k = xb) wo W3 from by rw [hW3]; exact (HO2.out.setCell (p := ⟨xb, j, none⟩) (.inl rfl) _).drew)
          clear hW3 xj xi xl fz w1 w2 w3 w4 e1 e2
          have xj := HX3.out.cell (i := j) (by omega)
          rw [if_pos rfl] at xj
          have fz := HX3.out.frozen j
          have w5 : IntKind.i64.wrap (y - (y + 128) / 256 * 256) = y - (y + 128) / 256 * 256 := IntWalk.i64_in _ (by omega)
          go_still_tail 10, (by kernel_rfl)
          go_wp2_with fail
          go_roundw
          case rel =>
            obtain ⟨z1, z2, z3⟩ := HY.out
            have q3 := HX3.out.setTo (g := gg F k (t + 1)) j (y - (y + 128) / 256 * 256) (fun q hq => by
              rw [gg_succ F k t j q HJ.out]
              by_cases c1 : q = j
              · rw [if_pos c1, if_pos c1, z3, z2]
                omega
              · rw [if_neg c1, if_neg c1, if_neg c1])
            refine ⟨t + 1, j + 1, by omega, by have := HJ.out; omega, by go_num, by rw [z2], q3.drew, ?_, ?_⟩
            · exact (HL3.out.far (a := ⟨xb, j, none⟩) (Ne.symm hxl) _).drew
            · exact (HO3.out.setCell (p := ⟨xb, j, none⟩) (.inl rfl) _).drew
          case measure => simp [intOf]; omega
        · have ht20 : t = 20 := by omega
          subst ht20
          have g1 : gg F k 20 (k - 12) = F (k - 12) := by unfold gg; rw [if_neg (by omega)]
          have xm := hx2.cell (i := k - 12) (by omega)
          rw [g1] at xm
          have xi := hx2.cell (i := k) (by omega)
          have fm := hx2.frozen (k - 12)
          have fi := hx2.frozen k
          have b1 := HI.out.great (k - 12)
          have b5 := cc_range F k HI.out.great 20
          have HJ := Lib.hid hj
          have HX2 := Lib.hid hx2
          have HL2 := Lib.hid hl2
          have HO2 := Lib.hid ho2
          have HG := Lib.hid g1
          have hjge : k - 12 ≤ j := by omega
          clear hj hx2 hl2 ho2 g1
          unfold MM at b1
          generalize hvm : F (k - 12) = vm at *
          generalize hvi : gg F k 20 k = vi at *
          generalize hvc : cc F k 20 = c at *
          have HV := Lib.hid (And.intro hvm hvc)
          clear hvm hvi hvc
          have w1 : IntKind.i64.wrap (vm + c) = vm + c := IntWalk.i64_in _ (by omega)
          have e1 : IntKind.i64.wrap ((k : Int) - 32) = (k : Int) - 32 := IntWalk.i64_in _ (by omega)
          have e2 : IntKind.i64.wrap ((k : Int) - 32 + 20) = ((k - 12 : Nat) : Int) := by rw [IntWalk.i64_in _ (by omega)]; omega
          have m0 : (0 : Int) ≤ ((k - 12 : Nat) : Int) := by omega
          have m1 : ((k - 12 : Nat) : Int) < 64 := by omega
          have k0 : (0 : Int) ≤ (k : Int) := by omega
          have k1 : (k : Int) < 64 := by omega
          have km : k ≠ k - 12 := by omega
          go_wp2_with fail
          go_still_tail 11, (by kernel_rfl)
          go_wp2_with fail
          go_roundw
          case rel =>
            have hkn := HK.out
            refine ⟨n + 1, k - 1, by omega, by omega, by congr 1; omega, ?_, ?_, ?_⟩
            · have q := ((HX2.out.set (k - 12) (vm + c)).set k 0).drew
              refine q.congr fun q' hq' => ?_
              show _ = hh (runs f n) (63 - n) q'
              rw [hF, show 63 - n = k by omega, hh_of]
              by_cases c1 : q' = k
              · rw [if_pos c1, if_pos c1]
              · rw [if_neg c1, if_neg c1]
                by_cases c2 : q' = k - 12
                · rw [if_pos c2, if_pos c2, HG.out, HV.out.2]
                · rw [if_neg c2, if_neg c2]
            · exact ((HL2.out.far (a := ⟨xb, k - 12, none⟩) (Ne.symm hxl) _).far (a := ⟨xb, k, none⟩) (Ne.symm hxl) _).drew
            · exact (HO1.out.then_ (((HO2.out.setCell (p := ⟨xb, k - 12, none⟩) (.inl rfl) _).setCell (p := ⟨xb, k, none⟩) (.inl rfl) _).drew) (fun i h => .inl h))
          case measure => simp [intOf]; omega
    · have hk31 : k = 31 := by have := HK.out; omega
      have hn32 : n = 32 := by have := HK.out; omega
      subst hk31
      subst hn32
      have g31 : ∀ k, k < 32 → -130 ≤ F k ∧ F k ≤ 130 := fun k hk => HI.out.first k (by omega) (by omega) (by omega)
      have G31 := Lib.hid g31
      have gz := HI.out.none_ 32 (by omega)
      have HGZ := Lib.hid gz
      have x31 := HX1.out.cell (i := 31) (by omega)
      have b31 := g31 31 (by omega)
      have DR := Lib.hid (dd_range F (F 31 / 16) g31 (by omega))
      have hmk := make32
      clear gz g31
      go_wp2_with fail
      go_region
      generalize htop : F 31 / 16 = top at *
      have HT := Lib.hid htop
      have hto : -9 ≤ top ∧ top ≤ 8 := by omega
      clear htop
      go_wp2_with fail
      go_loopw [7, 87] (fun c q wr2 => ∃ j : Nat, j ≤ 32 ∧ q = .int .i64 j ∧ c = .int .i64 (dd F top j) ∧ Row wr2 xb 34 .i64 64 (fun q => if q < j then ee F top q else F q) ∧ Row wr2 lb 39 .i64 32 lc ∧ Only (fun k => k = xb) wo wr2) (fun _ q _ => 32 - (intOf q).toNat)
      case atStart => exact ⟨0, by omega, rfl, rfl, (HX1.out.drew).congr (fun q _ => by rw [if_neg (by omega)]), HL1.out.drew, (Only.refl _ _).drew⟩
      case round =>
        obtain ⟨j, hj, rfl, rfl, hx2, hl2, ho2⟩ := hrel
        by_cases hlt : j < 32
        · have xj := hx2.cell (i := j) (by omega)
          rw [if_neg (by omega)] at xj
          have xl := hl2.cell (i := j) hlt
          have fz := hx2.frozen j
          have b1 := G31.out j hlt
          have b2 := lc_range j
          have b3 := mul_range top (lc j) 9 (by omega) (by omega) b2.1 b2.2
          have b4 := DR.out j hj
          have HX2 := Lib.hid hx2
          have HL2 := Lib.hid hl2
          have HO2 := Lib.hid ho2
          clear hx2 hl2 ho2
          obtain ⟨y, hy⟩ : ∃ y, y = F j + (dd F top j - top * lc j) := ⟨_, rfl⟩
          have hd2 : dd F top (j + 1) = y / 256 := by rw [hy]; rfl
          have he2 : ee F top j = y % 256 := by rw [hy]; rfl
          have HY := Lib.hid (And.intro hd2 he2)
          have by_ : -10000 ≤ y ∧ y ≤ 10000 := by omega
          clear hd2 he2
          generalize F j = vj at *
          generalize lc j = vl at *
          generalize dd F top j = c at *
          have w1 : IntKind.i64.wrap (top * vl) = top * vl := IntWalk.i64_in _ (by omega)
          have w2 : IntKind.i64.wrap (c - top * vl) = c - top * vl := IntWalk.i64_in _ (by omega)
          have w3 : IntKind.i64.wrap (vj + (c - top * vl)) = y := by rw [← hy]; exact IntWalk.i64_in _ (by omega)
          have j0 : (0 : Int) ≤ (j : Int) := by omega
          have j1 : (j : Int) < 64 := by omega
          have j2 : (j : Int) < 32 := by omega
          clear hy
          go_wp2_with fail
          go_still_tail 15, (by kernel_rfl)
          go_wp2_with fail
          obtain ⟨W3, hW3⟩ : ∃ W3, W3 = (wr.setCell ⟨xb, j, none⟩ (.int .i64 y)).drew := ⟨_, rfl⟩
          rw [← hW3]
          have HX3 := Lib.hid (show Row W3 xb 34 .i64 64 _ from by rw [hW3]; exact (HX2.out.set j y).drew)
          have HL3 := Lib.hid (show Row W3 lb 39 .i64 32 lc from by rw [hW3]; exact (HL2.out.far (a := ⟨xb, j, none⟩) (Ne.symm hxl) _).drew)
          have HO3 := Lib.hid (show Only (fun k => k = xb) wo W3 from by rw [hW3]; exact (HO2.out.setCell (p := ⟨xb, j, none⟩) (.inl rfl) _).drew)
          clear hW3 xj xl fz w1 w2 w3
          have xj := HX3.out.cell (i := j) (by omega)
          rw [if_pos rfl] at xj
          have fz := HX3.out.frozen j
          have w5 := and_255 y
          go_still_tail 8, (by kernel_rfl)
          go_wp2_with fail
          go_roundw
          case rel =>
            obtain ⟨z1, z2⟩ := HY.out
            refine ⟨j + 1, by omega, by go_num, by rw [z1], ?_, (HL3.out.far (a := ⟨xb, j, none⟩) (Ne.symm hxl) _).drew, (HO3.out.setCell (p := ⟨xb, j, none⟩) (.inl rfl) _).drew⟩
            refine (HX3.out.setTo j (y % 256) (fun q hq => ?_)).drew
            by_cases c1 : q = j
            · rw [if_pos c1, if_pos (by omega), c1, z2]
            · rw [if_neg c1, if_neg c1]
              by_cases c2 : q < j
              · rw [if_pos c2, if_pos (by omega)]
              · rw [if_neg c2, if_neg (by omega)]
          case measure => simp [intOf]; omega
        · have hj32 : j = 32 := by omega
          subst hj32
          have HX2 := Lib.hid hx2
          have HL2 := Lib.hid hl2
          have HO2 := Lib.hid ho2
          have dr := DR.out 32 (by omega)
          clear hx2 hl2 ho2
          obtain ⟨wp, rfl⟩ : ∃ wp : World, wp = wr := ⟨_, rfl⟩
          have HFN : Hid (∀ q, q < 32 → fin F q = ee F top q - dd F top 32 * lc q) := by
            intro q _
            unfold fin
            rw [HT.out]
          have HFR : Hid (∀ q, -4000 ≤ fin F q ∧ fin F q ≤ 4000) := fin_range F G31.out
          have HSR : Hid (∀ q, -20 ≤ ss (fin F) q ∧ ss (fin F) q ≤ 20) := ss_range F G31.out
          generalize hD : dd F top 32 = D at *
          clear hD
          rw [show ((32 : Nat) : Int) = 32 from rfl]
          go_wp2_with fail
          go_loopw [120] (fun q wr2 => ∃ j : Nat, j ≤ 32 ∧ q = .int .i64 j ∧ Row wr2 xb 34 .i64 64 (fun q => if q < j then fin F q else if q < 32 then ee F top q else F q) ∧ Row wr2 lb 39 .i64 32 lc ∧ Only (fun k => k = xb) wp wr2) (fun q _ => 32 - (intOf q).toNat)
          case atStart => exact ⟨0, by omega, rfl, HX2.out.congr (fun q _ => (if_neg (Nat.not_lt_zero q)).symm), HL2.out, Only.refl _ _⟩
          case round =>
            obtain ⟨j, hj, rfl, hx2, hl2, ho2⟩ := hrel
            by_cases hlt : j < 32
            · have xj := hx2.cell (i := j) (by omega)
              rw [if_neg (by omega), if_pos hlt] at xj
              have xl := hl2.cell (i := j) hlt
              have fz := hx2.frozen j
              have b2 := lc_range j
              have b3 := mul_range D (lc j) 11 (by omega) (by omega) b2.1 b2.2
              have b1 : 0 ≤ ee F top j ∧ ee F top j ≤ 255 := by unfold ee; omega
              have HX4 := Lib.hid hx2
              have HL4 := Lib.hid hl2
              have HO4 := Lib.hid ho2
              have HY := Lib.hid (HFN.out j hlt)
              clear hx2 hl2 ho2
              generalize ee F top j = vj at *
              generalize lc j = vl at *
              have w1 : IntKind.i64.wrap (D * vl) = D * vl := IntWalk.i64_in _ (by omega)
              have w2 : IntKind.i64.wrap (vj - D * vl) = vj - D * vl := IntWalk.i64_in _ (by omega)
              have j0 : (0 : Int) ≤ (j : Int) := by omega
              have j1 : (j : Int) < 64 := by omega
              have j2 : (j : Int) < 32 := by omega
              go_wp2_with fail
              go_still_tail 13, (by kernel_rfl)
              go_wp2_with fail
              go_roundw
              case rel =>
                refine ⟨j + 1, by omega, by go_num, ?_, (HL4.out.far (a := ⟨xb, j, none⟩) (Ne.symm hxl) _).drew, (HO4.out.setCell (p := ⟨xb, j, none⟩) (.inl rfl) _).drew⟩
                refine (HX4.out.setTo j (vj - D * vl) (fun q hq => ?_)).drew
                by_cases c1 : q = j
                · rw [if_pos c1, if_pos (by omega), c1, HY.out]
                · rw [if_neg c1]
                  by_cases c2 : q < j
                  · rw [if_pos c2, if_pos (by omega)]
                  · rw [if_neg c2, if_neg (by omega)]
              case measure => simp [intOf]; omega
            · have hj32 : j = 32 := by omega
              subst hj32
              have HX4 := Lib.hid hx2
              have HO4 := Lib.hid ho2
              have hwr : wo.heap.size ≤ wr.heap.size := Nat.le_trans HO2.out.size ho2.size
              have hwo : w.heap.size ≤ wo.heap.size := HO1.out.size
              have hxb := hx2.lt
              clear hx2 hl2 ho2
              obtain ⟨wq, rfl⟩ : ∃ wq : World, wq = wr := ⟨_, rfl⟩
              rw [show ((32 : Nat) : Int) = 32 from rfl]
              go_wp2_with fail
              have M5 : Hid (Row (wq.alloc (.cells (madeCells #[.int .u8 0] 32) 5)) wq.heap.size 5 .u8 32 (fun _ => 0)) := World.rowIs_made wq _ 32 5
              have X5 : Hid (Row (wq.alloc (.cells (madeCells #[.int .u8 0] 32) 5)) xb 34 .i64 64 _) := HX4.out.alloc _
              have hxr : xb ≠ wq.heap.size := by omega
              have hrs : w.heap.size ≤ wq.heap.size := by omega
              have O5 : Hid (Only (fun k => k = xb) w (wq.alloc (.cells (madeCells #[.int .u8 0] 32) 5))) := ((HO1.out.trans HO2.out).trans HO4.out).alloc _
              generalize wq.alloc (.cells (madeCells #[.int .u8 0] 32) 5) = W5 at *
              generalize hrb : wq.heap.size = rb at *
              clear hrb
              go_loopw [138] (fun q wr2 => ∃ (j : Nat) (G : Nat → Int), j ≤ 32 ∧ q = .int .i64 j ∧ Row wr2 xb 34 .i64 64 G ∧ (∀ q, j < q → q < 32 → G q = fin F q) ∧ (G j = if j < 32 then fin F j + ss (fin F) j else G j) ∧ (j < 32 → G 32 = 0) ∧ Row wr2 rb 5 .u8 32 (fun q => if q < j then oo (fin F) q else 0) ∧ Only (fun k => k = xb) w wr2) (fun q _ => 32 - (intOf q).toNat)
              case atStart =>
                refine ⟨0, _, by omega, rfl, X5.out, fun q _ h => by rw [if_pos h], ?_, fun _ => ?_, M5.out.congr (fun q _ => by rw [if_neg (by omega)]), O5.out⟩
                · rw [if_pos (by omega), if_pos (by omega)]
                  show _ = fin F 0 + 0
                  omega
                · rw [if_neg (by omega), if_neg (by omega)]
                  exact HGZ.out
              case round =>
                obtain ⟨j, G, hj, rfl, hx5, hG1, hG2, hG3, hm5, ho5⟩ := hrel
                by_cases hlt : j < 32
                · have xj := hx5.cell (i := j) (by omega)
                  have xk := hx5.cell (i := j + 1) (by omega)
                  have fz := hx5.frozen (j + 1)
                  have mj := hm5.cell (i := j) hlt
                  rw [if_neg (by omega)] at mj
                  have fm := hm5.frozen j
                  rw [if_pos hlt] at hG2
                  have b1 := HFR.out j
                  have b2 := HSR.out j
                  have b3 := HFR.out (j + 1)
                  have hk : G (j + 1) = if j + 1 < 32 then fin F (j + 1) else 0 := by
                    by_cases c : j + 1 < 32
                    · rw [if_pos c]; exact hG1 (j + 1) (by omega) c
                    · rw [if_neg c, show j + 1 = 32 by omega]; exact hG3 hlt
                  have bk : -4000 ≤ G (j + 1) ∧ G (j + 1) ≤ 4000 := by rw [hk]; split <;> omega
                  obtain ⟨y, hy⟩ : ∃ y, y = fin F j + ss (fin F) j := ⟨_, rfl⟩
                  have hs : ss (fin F) (j + 1) = y / 256 := by rw [hy]; rfl
                  have ho : oo (fin F) j = y % 256 := by rw [hy]; rfl
                  rw [← hy] at hG2
                  have byy : -5000 ≤ y ∧ y ≤ 5000 := by omega
                  rw [hG2] at xj
                  have HY := Lib.hid (And.intro hy (And.intro hs ho))
                  have HK := Lib.hid hk
                  have HX5 := Lib.hid hx5
                  have HM5 := Lib.hid hm5
                  have HO5 := Lib.hid ho5
                  have HG1 := Lib.hid hG1
                  have HG3 := Lib.hid hG3
                  clear hy hs ho hx5 hm5 ho5 hG1 hG2 hG3 hk
                  generalize hvk : G (j + 1) = vk at *
                  have HVK := Lib.hid hvk
                  clear hvk
                  have w1 : IntKind.i64.wrap ((j : Int) + 1) = (j : Int) + 1 := IntWalk.i64_in _ (by omega)
                  have w2 : IntKind.i64.wrap (vk + y / 256) = vk + y / 256 := IntWalk.i64_in _ (by omega)
                  have w3 : IntKind.u8.wrap y = y % 256 := IntKind.wrap_u8 y
                  have j0 : (0 : Int) ≤ (j : Int) := by omega
                  have j1 : (j : Int) < 64 := by omega
                  have j2 : (j : Int) < 32 := by omega
                  have j3 : (j : Int) + 1 < 64 := by omega
                  have j4 : (0 : Int) ≤ (j : Int) + 1 := by omega
                  have j5 : ((j : Int) + 1).toNat = j + 1 := by omega
                  go_wp2_with fail
                  go_still_tail 15, (by kernel_rfl)
                  go_wp2_with fail
                  go_roundw
                  case rel =>
                    obtain ⟨z0, z1, z2⟩ := HY.out
                    have X6 := (((HX5.out.set (j + 1) (vk + y / 256)).far (a := ⟨rb, j, none⟩) hxr (.int .u8 (y % 256)))).drew
                    have M6 := ((HM5.out.far (a := ⟨xb, j + 1, none⟩) (Ne.symm hxr) (.int .i64 (vk + y / 256))).set j (y % 256)).drew
                    refine ⟨j + 1, _, by omega, by go_num, X6, ?_, ?_, ?_, ?_, ((HO5.out.setCell (p := ⟨xb, j + 1, none⟩) (.inl rfl) _).setCell (p := ⟨rb, j, none⟩) (.inr hrs) _).drew⟩
                    · intro q h1 h2
                      rw [if_neg (by omega)]
                      exact HG1.out q (by omega) h2
                    · rw [if_pos rfl]
                      by_cases c : j + 1 < 32
                      · have hk := HK.out
                        rw [if_pos c] at hk
                        rw [if_pos c, z1, hk]
                      · rw [if_neg c]
                    · intro c
                      rw [if_neg (by omega)]
                      exact HG3.out (by omega)
                    · refine M6.congr (fun q hq => ?_)
                      by_cases c1 : q = j
                      · rw [if_pos c1, if_pos (by omega), c1, z2]
                      · rw [if_neg c1]
                        by_cases c2 : q < j
                        · rw [if_pos c2, if_pos (by omega)]
                        · rw [if_neg c2, if_neg (by omega)]
                  case measure => simp [intOf]; omega
                · have hj32 : j = 32 := by omega
                  subst hj32
                  have HM5 := Lib.hid hm5
                  have HO5 := Lib.hid ho5
                  clear hx5 hG1 hG2 hG3 hm5 ho5
                  go_wp2_with fail
                  go_ret
                  refine ⟨rb, rfl, hrs, HM5.out.congr (fun q hq => ?_), HO5.out⟩
                  rw [if_pos hq]
                  unfold outs
                  rw [hF]
end Go.Proofs.Ytbgcdfhnnmopdaa
