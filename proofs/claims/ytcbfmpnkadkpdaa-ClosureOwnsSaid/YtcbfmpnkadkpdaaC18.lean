/- The document's example: the walk. -/
import Derived.Test.YtcbfmpnkadkpdaaC17
set_option linter.unusedVariables false
namespace Go.Proofs.Ytcbfmpnkadkpdaa
open Go.RowKit

abbrev agX : ByteArray := ⟨#[47, 97, 103, 101, 110, 116, 47, 120]⟩
abbrev exA : En := ⟨1, ⟨#[47, 97]⟩, agX, 0, none, 0, []⟩
abbrev exB : En := ⟨2, ⟨#[47, 98]⟩, ⟨#[47, 97]⟩, 0, none, 0, []⟩
abbrev exC : En := ⟨3, ⟨#[47, 99]⟩, ⟨#[47, 100]⟩, 0, none, 0, []⟩
abbrev exL : List En := [exA, exB, exC]
def exD (p : ByteArray) : Option Nat := if p = ⟨#[47, 97]⟩ then some 1 else if p = ⟨#[47, 98]⟩ then some 2 else none
theorem exStepA : stepR agX exD exA = some 1 := by decide +kernel
theorem exStepB : stepR agX exD exB = some 2 := by decide +kernel
theorem exStepC : stepR agX exD exC = none := by decide +kernel
theorem exDone : Done agX exL exD := by
  refine ⟨⟨fun p n hp => ?_, fun p n hp => ?_, fun p n hp => ?_⟩, fun e he n hn => ?_⟩
  · unfold exD at hp
    split at hp
    · injection hp with hp; omega
    · split at hp
      · injection hp with hp; omega
      · cases hp
  · unfold exD at hp
    split at hp
    · rename_i h
      injection hp with hp
      exact ⟨exA, by simp, h.symm, 1, exStepA, by omega⟩
    · split at hp
      · rename_i h
        injection hp with hp
        exact ⟨exB, by simp, h.symm, 2, exStepB, by omega⟩
      · cases hp
  · have hc : cnt exL exD = 2 := by decide +kernel
    rw [hc]
    unfold exD at hp
    split at hp
    · injection hp with hp; omega
    · split at hp
      · injection hp with hp; omega
      · cases hp
  · simp only [List.mem_cons, List.not_mem_nil, or_false] at he
    rcases he with rfl | rfl | rfl
    · rw [exStepA] at hn; exact ⟨1, by decide +kernel, by injection hn with hn; omega⟩
    · rw [exStepB] at hn; exact ⟨2, by decide +kernel, by injection hn with hn; omega⟩
    · rw [exStepC] at hn; cases hn
theorem exWay : wayD agX exL = exD := done_eq (wayD_done _ _) exDone
theorem exMay : (mayC agX (wayD agX exL) exL).map core = [core exA, core exB] := by
  rw [exWay]
  decide +kernel
theorem exChain : chainL agX (wayD agX exL) exL 2 = [1, 0] := by
  rw [exWay]
  decide +kernel

theorem own_one {w : World} {base n : Nat} {A : Option Addr} {c : Nat} {e : TypeId} {s : Nat} {xs : List Value} (h : w.ownsRow base e s (.slice A n c) n xs) (hn : 0 < n) : ∃ g, A = some ⟨g, 0, none⟩ ∧ g < w.heap.size ∧ ∀ j u, xs[j]? = some u → w.cell? ⟨g, j, none⟩ = some u := by
  rcases h.2 with ⟨_, h0⟩ | ⟨g, cap, cur, hv, _⟩
  · omega
  · injection hv with hv
    subst hv
    refine ⟨g, rfl, (own_lt h rfl).2, fun j u hu => ?_⟩
    have := h.cells (g := g) rfl j u hu
    rw [show (⟨g, 0, none⟩ : Addr).add j = ⟨g, 0 + j, none⟩ by unfold Addr.add; split <;> simp_all, Nat.zero_add] at this
    exact this

set_option maxRecDepth 100000 in
set_option maxHeartbeats 4000000 in
theorem lives_any (w : World) : Calls Try.prog 12 #[] w fun e w' => e = .returned (.bool true) ∧ Below w.heap.size w w' := by
  have hE : EnsAt (w.alloc (.cells #[.int .i64 1, .string ⟨#[47, 97]⟩, .string agX, .int .i64 0, .slice none 0 0, .int .i64 2, .string ⟨#[47, 98]⟩, .string ⟨#[47, 97]⟩, .int .i64 0, .slice none 0 0, .int .i64 3, .string ⟨#[47, 99]⟩, .string ⟨#[47, 100]⟩, .int .i64 0, .slice none 0 0] 28)) (some ⟨w.heap.size, 0, none⟩) exL := by
    have hb := Blk.new w 28 #[.int .i64 1, .string ⟨#[47, 97]⟩, .string agX, .int .i64 0, .slice none 0 0, .int .i64 2, .string ⟨#[47, 98]⟩, .string ⟨#[47, 97]⟩, .int .i64 0, .slice none 0 0, .int .i64 3, .string ⟨#[47, 99]⟩, .string ⟨#[47, 100]⟩, .int .i64 0, .slice none 0 0]
    refine ⟨fun _ => ⟨w.heap.size, 0, rfl, hb.lt, fun i hi => ?_⟩, fun e he => ?_⟩
    · match i, hi with
      | 0, _ => exact ⟨hb.cell 0, hb.cell 1, hb.cell 2, hb.cell 3, hb.cell 4⟩
      | 1, _ => exact ⟨hb.cell 5, hb.cell 6, hb.cell 7, hb.cell 8, hb.cell 9⟩
      | 2, _ => exact ⟨hb.cell 10, hb.cell 11, hb.cell 12, hb.cell 13, hb.cell 14⟩
    · simp only [List.mem_cons, List.not_mem_nil, or_false] at he
      rcases he with rfl | rfl | rfl
      · exact ⟨fun h => absurd h (Nat.lt_irrefl 0), by decide, fun _ => ⟨rfl, rfl⟩⟩
      · exact ⟨fun h => absurd h (Nat.lt_irrefl 0), by decide, fun _ => ⟨rfl, rfl⟩⟩
      · exact ⟨fun h => absurd h (Nat.lt_irrefl 0), by decide, fun _ => ⟨rfl, rfl⟩⟩
  have hsz : ∀ e ∈ exL, e.path.size ≤ maxLen ∧ e.parent.size ≤ maxLen := by
    intro e he
    simp only [List.mem_cons, List.not_mem_nil, or_false] at he
    unfold maxLen
    rcases he with rfl | rfl | rfl <;> exact ⟨by decide, by decide⟩
  have MY : Hid (Calls Try.prog 13 #[.slice (some ⟨w.heap.size, 0, none⟩) 3 3, .string agX] (w.alloc (.cells #[.int .i64 1, .string ⟨#[47, 97]⟩, .string agX, .int .i64 0, .slice none 0 0, .int .i64 2, .string ⟨#[47, 98]⟩, .string ⟨#[47, 97]⟩, .int .i64 0, .slice none 0 0, .int .i64 3, .string ⟨#[47, 99]⟩, .string ⟨#[47, 100]⟩, .int .i64 0, .slice none 0 0] 28)) (MayW agX exL _)) := Lib.hid (may_w (some ⟨w.heap.size, 0, none⟩) 3 exL agX _ hE (by decide) (by decide) hsz)
  have HE := Lib.hid hE
  have HZ := Lib.hid hsz
  have H0 : Hid (Below w.heap.size w (w.alloc (.cells #[.int .i64 1, .string ⟨#[47, 97]⟩, .string agX, .int .i64 0, .slice none 0 0, .int .i64 2, .string ⟨#[47, 98]⟩, .string ⟨#[47, 97]⟩, .int .i64 0, .slice none 0 0, .int .i64 3, .string ⟨#[47, 99]⟩, .string ⟨#[47, 100]⟩, .int .i64 0, .slice none 0 0] 28))) := Lib.hid ((Below.refl _ _).alloc (Nat.le_refl _) _)
  clear hE hsz
  go_enter Try.func12, Try.ntmps12
  go_upto_region 2 with fail
  generalize w.alloc (.cells #[.int .i64 1, .string ⟨#[47, 97]⟩, .string agX, .int .i64 0, .slice none 0 0, .int .i64 2, .string ⟨#[47, 98]⟩, .string ⟨#[47, 97]⟩, .int .i64 0, .slice none 0 0, .int .i64 3, .string ⟨#[47, 99]⟩, .string ⟨#[47, 100]⟩, .int .i64 0, .slice none 0 0] 28) = W0 at *
  go_upto_region 3 with (go_at_call 13; (with_reducible refine MY.out.mono ?_); rintro en w2 ⟨A1, c1, M, rfl, o1, m1, b1⟩; have O1 := Lib.hid o1; have M1 := Lib.hid m1; have B1 := Lib.hid b1; have CH : Hid (Calls Try.prog 10 #[.slice (some ⟨w.heap.size, 0, none⟩) 3 3, .int .i64 2, .string agX] w2 (ChainP agX exL 2 w2)) := Lib.hid (chain_any (some ⟨w.heap.size, 0, none⟩) 3 exL 2 agX w2 (HE.out.below b1) (by decide) (by decide) HZ.out); clear o1 m1 b1)
  go_upto_region 4 with (go_at_call 10; (with_reducible refine CH.out.mono ?_); rintro en w4 ⟨A3, c3, rfl, r3, b3⟩; have R3 := Lib.hid r3; have B3 := Lib.hid b3; clear r3 b3)
  have m1 := M1.out
  rw [exMay] at m1
  have r3 := R3.out
  rw [exChain] at r3 ⊢
  obtain ⟨x, y, rfl⟩ : ∃ x y, M = [x, y] := by
    match M, m1 with
    | [], h => cases h
    | [_], h => simp at h
    | [x, y], _ => exact ⟨x, y, rfl⟩
    | _ :: _ :: _ :: _, h => simp at h
  have hy : y.n = 2 := by
    simp only [List.map_cons, List.map_nil, List.cons.injEq] at m1
    exact ((core_eq y exB).1 m1.2.1).1
  obtain ⟨g1, rfl, hg1, hc1⟩ := own_one O1.out.row (Nat.succ_pos 1)
  obtain ⟨g3, rfl, hg3, hc3⟩ := own_one r3 (by decide)
  have v1 := (B3.out.cell (p := ⟨g1, 5, none⟩) hg1).trans (hc1 5 (.int .i64 y.n) rfl)
  rw [hy] at v1
  have v2 := hc3 0 (.int .i64 1) rfl
  have v3 := hc3 1 (.int .i64 0) rfl
  have HB := Lib.hid (H0.out.trans ((B1.out.trans (B3.out.mono B1.out.size)).mono H0.out.size))
  clear m1 r3 hc1 hc3 hy O1 M1 R3 CH MY HE HZ
  go_wp2_with fail
  go_ret
  exact ⟨rfl, HB.out⟩
end Go.Proofs.Ytcbfmpnkadkpdaa
