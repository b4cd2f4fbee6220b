/- lives: the walk. -/
import Derived.Test.YtbgcdfhnnmopdaaT1
namespace Go.Proofs.Ytbgcdfhnnmopdaa
open Go.RowKit

theorem rd_new (w : World) (t : TypeId) (cs : List Int) (h : ∀ x ∈ cs, 0 ≤ x ∧ x ≤ 255) : Rd (w.alloc (.cells (cs.map (Value.int .u8)).toArray t)) .u8 (some ⟨w.heap.size, 0, none⟩) cs.length (fun i => cs.getD i 0) := by
  refine ⟨fun _ => ⟨w.heap.size, 0, rfl, by simp, fun i hi => ?_⟩, fun i => ?_⟩
  · rw [Nat.zero_add, cell_of_row _ _ i _ t (0, 0) (heap_alloc_new w _)]
    simp [List.getD, hi]
  · by_cases hi : i < cs.length
    · have := h cs[i] (List.getElem_mem hi)
      simpa [List.getD, hi] using this
    · simp [List.getD, List.getElem?_eq_none (show cs.length ≤ i by omega)]
theorem rd_alloc {w : World} {k : IntKind} {A : Option Addr} {n : Nat} {f : Nat → Int} (h : Rd w k A n f) (o : Obj) : Rd (w.alloc o) k A n f := h.below ((Below.refl _ _).alloc (Nat.le_refl _) _)
theorem row_rd {w : World} {b : Nat} {t : TypeId} {f : Nat → Int} (h : Row w b t .u8 32 f) (hf : ∀ i, 0 ≤ f i ∧ f i ≤ 255) : Rd w .u8 (some ⟨b, 0, none⟩) 32 f := res_rd h.lt (fun _ hi => h.cell hi) hf
theorem rd_zero (w : World) : Rd (w.alloc (.cells (madeCells #[.int .u8 0] 32) 5)) .u8 (some ⟨w.heap.size, 0, none⟩) 32 (fun _ => 0) := row_rd (t := 5) (World.rowIs_made w (.int .u8 0) 32 5) (fun _ => ⟨Int.le_refl _, by decide⟩)
theorem zero_sum : sumTo (fun _ => 0) 32 = 0 := sumTo_zero 32
theorem eq_same (s : ByteArray) (w : World) : (binOp .eql 9 (.string s) (.string s)).run Try.prog w = .ok (.bool true) w := by
  simp [go_sem]

theorem arm_w {w0 w1 w2 : World} (h1 : Below w0.heap.size w0 w1) (h2 : Below w1.heap.size w1 w2) : Below w0.heap.size w0 w2 := h1.trans (h2.mono h1.size)

theorem arm_al {w0 w1 : World} (h1 : Below w0.heap.size w0 w1) (o : Obj) : Below w0.heap.size w0 (w1.alloc o) := h1.alloc h1.size o
theorem lives1 (w : World) : Calls Try.prog 12 #[.slice (some ⟨w.heap.size, 0, none⟩) 1 1, .slice (some ⟨w.heap.size + 1, 0, none⟩) 1 1, .slice (some ⟨w.heap.size + 2, 0, none⟩) 1 1] (((w.alloc (.cells #[.int .u8 3] 5)).alloc (.cells #[.int .u8 4] 5)).alloc (.cells #[.int .u8 5] 5)) (fun e w' => Own (((w.alloc (.cells #[.int .u8 3] 5)).alloc (.cells #[.int .u8 4] 5)).alloc (.cells #[.int .u8 5] 5)) 17 e w') := by
  have h1 : Rd (w.alloc (.cells #[.int .u8 3] 5)) .u8 (some ⟨w.heap.size, 0, none⟩) 1 (fun i => [(3 : Int)].getD i 0) := rd_new w 5 [3] (by decide)
  have h2 : Rd ((w.alloc (.cells #[.int .u8 3] 5)).alloc (.cells #[.int .u8 4] 5)) .u8 (some ⟨(w.alloc (.cells #[.int .u8 3] 5)).heap.size, 0, none⟩) 1 (fun i => [(4 : Int)].getD i 0) := rd_new _ 5 [4] (by decide)
  have h3 : Rd (((w.alloc (.cells #[.int .u8 3] 5)).alloc (.cells #[.int .u8 4] 5)).alloc (.cells #[.int .u8 5] 5)) .u8 (some ⟨((w.alloc (.cells #[.int .u8 3] 5)).alloc (.cells #[.int .u8 4] 5)).heap.size, 0, none⟩) 1 (fun i => [(5 : Int)].getD i 0) := rd_new _ 5 [5] (by decide)
  simp only [World.size_alloc] at h2 h3
  have := mulAdd_any _ _ _ 1 1 1 1 1 1 _ _ _ _ (rd_alloc (rd_alloc h1 _) _) (rd_alloc h2 _) h3 (by omega) (by omega) (by omega)
  refine this.mono fun e w' h => ?_
  have h' := own_of_res h
  have e17 : (sumTo (fun i => [(3 : Int)].getD i 0) (min 1 32) * sumTo (fun i => [(4 : Int)].getD i 0) (min 1 32) + sumTo (fun i => [(5 : Int)].getD i 0) (min 1 32)) % LV = 17 := by decide
  rw [e17] at h'
  exact h'

theorem conv_zero (w : World) : (convert 22 9 (.slice (some ⟨w.heap.size, 0, none⟩) 32 32)).run Try.prog (w.alloc (.cells (madeCells #[.int .u8 0] 32) 5)) = .ok (.string (num 0)) (w.alloc (.cells (madeCells #[.int .u8 0] 32) 5)) := conv_own 32 (rd_zero w) zero_sum

theorem conv_zero_drew (w : World) : (convert 22 9 (.slice (some ⟨w.heap.size, 0, none⟩) 32 32)).run Try.prog (w.alloc (.cells (madeCells #[.int .u8 0] 32) 5)).drew = .ok (.string (num 0)) (w.alloc (.cells (madeCells #[.int .u8 0] 32) 5)).drew := conv_own 32 (drew_rd (rd_zero w)) zero_sum

theorem lc_new (w : World) : Rd (w.alloc (.cells #[.int .u8 237, .int .u8 211, .int .u8 245, .int .u8 92, .int .u8 26, .int .u8 99, .int .u8 18, .int .u8 88, .int .u8 214, .int .u8 156, .int .u8 247, .int .u8 162, .int .u8 222, .int .u8 249, .int .u8 222, .int .u8 20, .int .u8 0, .int .u8 0, .int .u8 0, .int .u8 0, .int .u8 0, .int .u8 0, .int .u8 0, .int .u8 0, .int .u8 0, .int .u8 0, .int .u8 0, .int .u8 0, .int .u8 0, .int .u8 0, .int .u8 0, .int .u8 16] 5)) .u8 (some ⟨w.heap.size, 0, none⟩) 32 lc := rd_new w 5 [237, 211, 245, 92, 26, 99, 18, 88, 214, 156, 247, 162, 222, 249, 222, 20, 0, 0, 0, 0, 0, 0, 0, 0, 0, 0, 0, 0, 0, 0, 0, 16] (by decide)

theorem red_lc (A : Option Addr) (c : Nat) (w : World) (h : Rd w .u8 A 32 lc) : Calls Try.prog 9 #[.slice A 32 c] w (Own w 0) := by
  refine (reduce_any A 32 c lc w h (by omega)).mono fun e w' h' => ?_
  have e0 : sumTo lc (min 32 64) % LV = 0 := by rw [show min 32 64 = 32 from rfl, lc_sum]; exact Int.emod_self
  rw [e0] at h'
  exact own_of_res h'
theorem is_lc (A : Option Addr) (c : Nat) (w : World) (h : Rd w .u8 A 32 lc) : Calls Try.prog 14 #[.slice A 32 c] w fun e w' => e = .returned (.bool false) ∧ Below w.heap.size w w' := by
  refine (is_any A 32 c lc w h (by omega)).mono fun e w' h' => ?_
  rw [lc_sum] at h'
  simpa using h'

set_option maxRecDepth 100000 in
set_option maxHeartbeats 4000000 in
theorem lives_any (w : World) : Calls Try.prog 11 #[] w fun e w' => e = .returned (.bool true) ∧ Below w.heap.size w w' := by
  have HL := Lib.hid (lives1 w)
  go_enter Try.func11, Try.ntmps11
  go_wp2_with (go_at_call 12; refine HL.out.mono ?_; rintro e w1 ⟨r, cap, g, rfl, hr0, hr1, hr2, hr3⟩; have R0 := Lib.hid hr0; have R1 := Lib.hid hr1; have R2 := Lib.hid hr2; have R3 := Lib.hid hr3; clear hr0 hr1 hr2 hr3)
  have g0 : g 0 = 17 := sumTo_inj g (dg 17) R1.out.2 (dg_range _) 32 (by rw [R2.out]; decide) 0 (by omega)
  have x0 := lc_new w1
  have RW := rd_alloc R1.out (.cells #[.int .u8 237, .int .u8 211, .int .u8 245, .int .u8 92, .int .u8 26, .int .u8 99, .int .u8 18, .int .u8 88, .int .u8 214, .int .u8 156, .int .u8 247, .int .u8 162, .int .u8 222, .int .u8 249, .int .u8 222, .int .u8 20, .int .u8 0, .int .u8 0, .int .u8 0, .int .u8 0, .int .u8 0, .int .u8 0, .int .u8 0, .int .u8 0, .int .u8 0, .int .u8 0, .int .u8 0, .int .u8 0, .int .u8 0, .int .u8 0, .int .u8 0, .int .u8 16] 5)
  have BW : Below w1.heap.size w1 (w1.alloc (.cells #[.int .u8 237, .int .u8 211, .int .u8 245, .int .u8 92, .int .u8 26, .int .u8 99, .int .u8 18, .int .u8 88, .int .u8 214, .int .u8 156, .int .u8 247, .int .u8 162, .int .u8 222, .int .u8 249, .int .u8 222, .int .u8 20, .int .u8 0, .int .u8 0, .int .u8 0, .int .u8 0, .int .u8 0, .int .u8 0, .int .u8 0, .int .u8 0, .int .u8 0, .int .u8 0, .int .u8 0, .int .u8 0, .int .u8 0, .int .u8 0, .int .u8 0, .int .u8 16] 5)) := (Below.refl _ _).alloc (Nat.le_refl _) _
  generalize World.alloc w1 (.cells #[.int .u8 237, .int .u8 211, .int .u8 245, .int .u8 92, .int .u8 26, .int .u8 99, .int .u8 18, .int .u8 88, .int .u8 214, .int .u8 156, .int .u8 247, .int .u8 162, .int .u8 222, .int .u8 249, .int .u8 222, .int .u8 20, .int .u8 0, .int .u8 0, .int .u8 0, .int .u8 0, .int .u8 0, .int .u8 0, .int .u8 0, .int .u8 0, .int .u8 0, .int .u8 0, .int .u8 0, .int .u8 0, .int .u8 0, .int .u8 0, .int .u8 0, .int .u8 16] 5) = W2 at *
  have c0 : W2.cell? ⟨r, 0, none⟩ = some (.int .u8 17) := by
    obtain ⟨b, o, e, _, hc⟩ := RW.1 (by omega)
    have := hc 0 (by omega)
    injection e with e
    injection e with e1 e2
    rw [← e1, ← e2, g0] at this
    exact this
  have X0 := Lib.hid x0
  have B0 : Hid (Below w.heap.size w W2) := Lib.hid (arm_w (arm_w (((Below.refl _ _).alloc (Nat.le_refl _) _).alloc (by rw [World.size_alloc]; omega) _ |>.alloc (by rw [World.size_alloc, World.size_alloc]; omega) _) (R3.out)) BW)
  clear x0 RW BW
  have hmk := make32
  have hcz := conv_zero
  have hczd := conv_zero_drew
  have hes := eq_same
  clear g0
  go_region_with (first
    | (go_at_call 9; refine (red_lc _ _ _ (drew_rd X0.out)).mono ?_; rintro e w2 ⟨r2, cap2, g2, rfl, s0, s1, s2, s3⟩; have q1 := conv_own cap2 s1 s2; have q2 := fun o => conv_own cap2 (rd_alloc s1 o) s2; have Z2 := Lib.hid ((drew_rd X0.out).below s3); have S3 := Lib.hid s3; clear s0 s1 s2 s3)
    | (go_at_call 9; refine (red_lc _ _ _ (drew_rd (rd_alloc X0.out _))).mono ?_; rintro e w2 ⟨r2, cap2, g2, rfl, s0, s1, s2, s3⟩; have q1 := conv_own cap2 s1 s2; have q2 := conv_own 32 ((drew_rd (rd_zero _)).below s3) zero_sum; have Z2 := Lib.hid ((drew_rd (rd_alloc X0.out _)).below s3); have S3 := Lib.hid s3; clear s0 s1 s2 s3)
    | (go_at_call 14; refine (is_lc _ _ _ Z2.out).mono ?_; rintro e w3 ⟨rfl, s3⟩; have S4 := Lib.hid s3; clear s3)
    | (go_at_call 14; refine (is_lc _ _ _ (rd_alloc Z2.out _)).mono ?_; rintro e w3 ⟨rfl, s3⟩; have S4 := Lib.hid s3; clear s3))
  all_goals (go_wp2_with fail)
  all_goals go_ret
  all_goals first
    | exact ⟨rfl, arm_w (arm_w B0.out.drew S3.out) S4.out⟩
    | exact ⟨rfl, arm_w (arm_al (arm_w B0.out.drew S3.out) _) S4.out⟩
    | exact ⟨rfl, arm_w (arm_w (arm_al B0.out _).drew S3.out) S4.out⟩
end Go.Proofs.Ytbgcdfhnnmopdaa
