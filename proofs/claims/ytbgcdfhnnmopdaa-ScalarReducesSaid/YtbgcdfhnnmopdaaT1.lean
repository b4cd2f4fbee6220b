/- Strings of digits; few, Is: the walks. -/
import Derived.Test.YtbgcdfhnnmopdaaS3
import Derived.Laws.BytesArg
import Derived.Lib.Bytes
namespace Go.Proofs.Ytbgcdfhnnmopdaa
open Go.RowKit

/-- The string of n bytes. -/
def strN (f : Nat → Int) (n : Nat) : ByteArray := strOfNums ((List.range n).map f)
theorem strN_congr {f g : Nat → Int} {n : Nat} (h : ∀ i, i < n → f i = g i) : strN f n = strN g n := by
  unfold strN
  congr 1
  exact List.map_congr_left fun i hi => h i (List.mem_range.1 hi)
theorem sumTo_inj (f g : Nat → Int) (hf : ∀ i, 0 ≤ f i ∧ f i ≤ 255) (hg : ∀ i, 0 ≤ g i ∧ g i ≤ 255) : ∀ n, sumTo f n = sumTo g n → ∀ i, i < n → f i = g i
  | 0, _, i, hi => by omega
  | n + 1, h, i, hi => by
    have a := sumTo_digits f n (fun k _ => hf k)
    have b := sumTo_digits g n (fun k _ => hg k)
    have h' : sumTo f n + f n * 256 ^ n = sumTo g n + g n * 256 ^ n := h
    have hp : (0 : Int) < 256 ^ n := by omega
    have hn : f n = g n := by
      have e1 : (sumTo f n + f n * 256 ^ n) / 256 ^ n = f n := by
        rw [Int.add_mul_ediv_right _ _ (by omega), Int.ediv_eq_zero_of_lt a.1 a.2]; omega
      have e2 : (sumTo g n + g n * 256 ^ n) / 256 ^ n = g n := by
        rw [Int.add_mul_ediv_right _ _ (by omega), Int.ediv_eq_zero_of_lt b.1 b.2]; omega
      rw [← e1, ← e2, h']
    rw [hn] at h'
    by_cases c : i = n
    · rw [c]; exact hn
    · exact sumTo_inj f g hf hg n (by omega) i (by omega)
def dg (X : Int) (i : Nat) : Int := X / 256 ^ i % 256
theorem dg_range (X : Int) (i : Nat) : 0 ≤ dg X i ∧ dg X i ≤ 255 := by unfold dg; omega
theorem sumTo_dg (X : Int) : ∀ n, sumTo (dg X) n = X % 256 ^ n
  | 0 => by simp [sumTo, Int.emod_one]
  | n + 1 => by
    show sumTo (dg X) n + dg X n * 256 ^ n = _
    rw [sumTo_dg X n]
    unfold dg
    have hp : (0 : Int) < 256 ^ n := Int.pow_pos (by omega)
    have e := Int.emod_def X (256 ^ n)
    have e2 : X % 256 ^ (n + 1) = X - 256 ^ (n + 1) * (X / 256 ^ (n + 1)) := Int.emod_def _ _
    have e3 : X / 256 ^ (n + 1) = X / 256 ^ n / 256 := by rw [Int.pow_succ, Int.ediv_ediv_of_nonneg (by omega)]
    have e4 := Int.emod_def (X / 256 ^ n) 256
    rw [e2, e3, e, e4, Int.pow_succ]
    grind
/-- The 32 bytes of a number. -/
def num (X : Int) : ByteArray := strN (dg X) 32
theorem num_of (f : Nat → Int) (hf : ∀ i, 0 ≤ f i ∧ f i ≤ 255) : strN f 32 = num (sumTo f 32) := by
  have a := sumTo_digits f 32 (fun k _ => hf k)
  refine strN_congr (sumTo_inj f _ hf (dg_range _) 32 ?_)
  rw [sumTo_dg, Int.emod_eq_of_lt a.1 a.2]
theorem num_inj {X Y : Int} (hX : 0 ≤ X ∧ X < 256 ^ 32) (hY : 0 ≤ Y ∧ Y < 256 ^ 32) (h : num X = num Y) : X = Y := by
  have h1 : ∀ i, i < 32 → dg X i = dg Y i := by
    intro i hi
    have h2 : (num X).data.toList = (num Y).data.toList := by rw [h]
    unfold num strN at h2
    rw [strOfNums_data, strOfNums_data] at h2
    have h3 : ((List.map (fun n : Int => UInt8.ofNat n.toNat) ((List.range 32).map (dg X)))[i]?) = ((List.map (fun n : Int => UInt8.ofNat n.toNat) ((List.range 32).map (dg Y)))[i]?) := by rw [h2]
    simp only [List.getElem?_map, List.getElem?_range hi, Option.map_some, Option.some.injEq] at h3
    have a := dg_range X i
    have b := dg_range Y i
    have h4 := congrArg UInt8.toNat h3
    rw [UInt8.toNat_ofNat', UInt8.toNat_ofNat'] at h4
    omega
  have := sumTo_congr h1
  rw [sumTo_dg, sumTo_dg, Int.emod_eq_of_lt hX.1 hX.2, Int.emod_eq_of_lt hY.1 hY.2] at this
  exact this

theorem conv_rd {w : World} {A : Option Addr} {n : Nat} {f : Nat → Int} (c : Nat) (h : Rd w .u8 A n f) : (convert 22 9 (.slice A n c)).run Try.prog w = .ok (.string (strN f n)) w := by
  by_cases hn : n = 0
  · subst hn
    match A with
    | none => exact run_convert_bytes_nil w 22 5 Try.underlying22 Try.underlying5 0 c 9 Try.underlying9
    | some a => exact run_convert_bytes_back w 22 9 5 a c [] Try.underlying22 Try.underlying5 Try.underlying9 (fun j hj => absurd hj (Nat.not_lt_zero j))
  · obtain ⟨b, o, rfl, _, hc⟩ := h.1 (by omega)
    refine run_convert_bytes_arg w 22 5 Try.underlying22 Try.underlying5 b o n c ((List.range n).map f) (by simp) (fun i hi => ?_) 9 Try.underlying9
    rw [hc i hi]
    simp [List.getD, hi]

theorem str_beq (f g : Nat → Int) (n m : Nat) (p : Prop) [Decidable p] (h : strN f n = strN g m ↔ p) : ((strN f n).toList == (strN g m).toList) = decide p := by
  rw [Bool.eq_iff_iff, beq_iff_eq, decide_eq_true_iff, ← h]
  constructor
  · intro e
    unfold strN at e ⊢
    rw [Lib.strOfNums_toList, Lib.strOfNums_toList] at e
    unfold Lib.bytesOf at e
    unfold strOfNums
    rw [e]
  · intro e
    rw [e]
theorem num_beq (X Y : Int) (h : X = Y) : ((num X).toList == (num Y).toList) = true := by rw [h]; exact beq_self_eq_true _

/-- A number's 32 bytes, that lie in a row. -/
theorem res_rd {w : World} {r : Nat} {g : Nat → Int} (hl : r < w.heap.size) (hc : ∀ i, i < 32 → w.cell? ⟨r, i, none⟩ = some (.int .u8 (g i))) (hg : ∀ i, 0 ≤ g i ∧ g i ≤ 255) : Rd w .u8 (some ⟨r, 0, none⟩) 32 g := ⟨fun _ => ⟨r, 0, rfl, hl, fun i hi => by rw [Nat.zero_add]; exact hc i hi⟩, hg⟩

theorem drew_rd {w : World} {k : IntKind} {A : Option Addr} {n : Nat} {f : Nat → Int} (h : Rd w k A n f) : Rd w.drew k A n f := h
theorem drewN_rd {w : World} {k : IntKind} {A : Option Addr} {n : Nat} {f : Nat → Int} (h : Rd w k A n f) (m : Nat) : Rd (w.drewN m) k A n f := h

/-- 32 own bytes of a number, as they are used. -/
def Own (w0 : World) (X : Int) (e : Ending) (w' : World) : Prop :=
  ∃ r cap g, e = .returned (.slice (some ⟨r, 0, none⟩) 32 cap) ∧ w0.heap.size ≤ r ∧ Rd w' .u8 (some ⟨r, 0, none⟩) 32 g ∧ sumTo g 32 = X ∧ Below w0.heap.size w0 w'
theorem own_of_res {w0 w' : World} {X : Int} {e : Ending} (h : Res w0 X e w') : Own w0 X e w' := by
  obtain ⟨r, cap, g, he, h1, h2, h3, h4, h5, h6⟩ := h
  exact ⟨r, cap, g, he, h1, res_rd h2 h3 h4, h5, h6⟩
theorem conv_own {w : World} {r : Nat} {g : Nat → Int} {X : Int} (c : Nat) (h : Rd w .u8 (some ⟨r, 0, none⟩) 32 g) (hX : sumTo g 32 = X) : (convert 22 9 (.slice (some ⟨r, 0, none⟩) 32 c)).run Try.prog w = .ok (.string (num X)) w := by
  rw [conv_rd c h, num_of g h.2, hX]

theorem few_any (A : Option Addr) (n c m : Nat) (f : Nat → Int) (w : World) (h : Rd w .u8 A n f) (hc : n ≤ c) :
    Calls Try.prog 8 #[.slice A n c, .int .i64 m] w fun e w' => e = .returned (.slice A (min n m) c) ∧ w' = w := by
  by_cases hlt : m < n
  · obtain ⟨b, o, rfl, _⟩ := h.1 (by omega)
    have k1 : (m : Int) < (n : Int) := by omega
    have k2 : (0 : Int) ≤ (m : Int) := by omega
    have k3 : (m : Int) ≤ (c : Int) := by omega
    have km : min n m = m := by omega
    rw [km]
    clear h
    go_enter Try.func8, Try.ntmps8
    go_wp2_with fail
    go_ret
    exact ⟨rfl, rfl⟩
  · have k1 : ¬ (m : Int) < (n : Int) := by omega
    have km : min n m = n := by omega
    rw [km]
    clear h
    go_enter Try.func8, Try.ntmps8
    go_wp2_with fail
    go_ret
    exact ⟨rfl, rfl⟩

theorem LV_pos : 0 < LV ∧ LV < 256 ^ 32 := by decide

set_option maxHeartbeats 1000000 in
theorem is_any (A : Option Addr) (n c : Nat) (f : Nat → Int) (w : World) (h : Rd w .u8 A n f) (hn : n ≤ 9223372036854775807) :
    Calls Try.prog 14 #[.slice A n c] w fun e w' => e = .returned (.bool (decide (n = 32 ∧ sumTo f 32 < LV))) ∧ Below w.heap.size w w' := by
  by_cases hn32 : n = 32
  · subst hn32
    have s1 := sumTo_digits f 32 (fun k _ => h.2 k)
    have s2 : 0 ≤ sumTo f 32 % LV ∧ sumTo f 32 % LV < 256 ^ 32 := ⟨Int.emod_nonneg _ (by have := LV_pos; omega), by have := Int.emod_lt_of_pos (sumTo f 32) LV_pos.1; have := LV_pos; omega⟩
    have hcl : ∀ w1 : World, Rd w1 .u8 A 32 f → Calls Try.prog 9 #[.slice A 32 c] w1 (Own w1 (sumTo f 32 % LV)) := fun w1 h1 => (reduce_any A 32 c f w1 h1 hn).mono fun e w' => own_of_res
    have HCL := Lib.hid hcl
    have HH := Lib.hid h
    have heq : Hid (((num (sumTo f 32 % LV)).toList == (strN f 32).toList) = decide ((32 : Nat) = 32 ∧ sumTo f 32 < LV)) := by
      show _ = _
      refine str_beq _ _ _ _ _ ?_
      show num (sumTo f 32 % LV) = strN f 32 ↔ _
      rw [num_of f h.2]
      constructor
      · intro e
        refine ⟨rfl, ?_⟩
        have := num_inj s2 s1 e
        rw [← this]
        exact Int.emod_lt_of_pos _ LV_pos.1
      · rintro ⟨_, e⟩
        rw [Int.emod_eq_of_lt s1.1 e]
    have c0 := conv_rd c (drew_rd h)
    have c1 := conv_rd c h
    clear h hcl s1 s2
    go_enter Try.func14, Try.ntmps14
    go_wp2_with fail
    go_region_with (first
      | (go_at_call 9; refine (HCL.out _ (drew_rd HH.out)).mono ?_; rintro e w2 ⟨r, cap, g, rfl, hr0, hr1, hr2, hr3⟩; have q1 := conv_own cap hr1 hr2; have q2 := conv_rd c ((drew_rd HH.out).below hr3); have HB := Lib.hid hr3; clear hr0 hr1 hr2 hr3))
    all_goals (go_wp2_with fail)
    all_goals go_ret
    all_goals exact ⟨ret_bool heq.out, (Below.refl _ _).drew.trans HB.out⟩
  · have k1 : ¬ (n : Int) = 32 := by omega
    have k3 : ((n : Int) == 32) = false := by simp only [beq_eq_false_iff_ne, ne_eq]; omega
    have k2 : decide (n = 32 ∧ sumTo f 32 < LV) = false := by simp [hn32]
    rw [k2]
    clear h k1 k2 hn32
    go_enter Try.func14, Try.ntmps14
    go_wp2_with fail
    go_quiet (fail)
    go_wp2_with fail
    go_ret
    exact ⟨rfl, below_drewN (Below.refl _ _) _⟩
end Go.Proofs.Ytbgcdfhnnmopdaa
