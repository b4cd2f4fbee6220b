/- What is seen of lists of packets: Same, count, All. -/
import Derived.Test.YtnccgbcmencncaaN1
namespace Go.Proofs.Ytnccgbcmencncaa
open Go.RowKit

theorem ret_int {k : IntKind} {a b : Int} (h : a = b) : Ending.returned (.int k a) = .returned (.int k b) := by rw [h]
theorem ret_bool {a b : Bool} (h : a = b) : Ending.returned (.bool a) = .returned (.bool b) := by rw [h]
theorem below_drewN {B : Nat} {a w : World} (h : Below B a w) (n : Nat) : Below B a (w.drewN n) := ⟨h.os, h.tape, h.output, h.size, h.block⟩

theorem toList_eq_iff (a b : ByteArray) : a.toList = b.toList ↔ a = b := by
  rw [ByteArray.toList_eq, ByteArray.toList_eq]
  obtain ⟨⟨x⟩⟩ := a
  obtain ⟨⟨y⟩⟩ := b
  simp

theorem run_eql_pk (p q : Pk) (w : World) : (binOp .eql 28 (.agg #[.int .i64 p.src, .int .i64 p.dst, .string p.data]) (.agg #[.int .i64 q.src, .int .i64 q.dst, .string q.data])).run Try.prog w = .ok (.bool (decide (p = q))) w := by
  obtain ⟨a, b, c⟩ := p
  obtain ⟨a', b', c'⟩ := q
  have hp : Try.prog.stoodInHeld 28 = false := by kernel_rfl
  rw [run_eql_struct, run_equalIn_agg w 9999 28 _ _ (by kernel_rfl) hp]
  simp [go_sem]
  simp only [toList_eq_iff]
  by_cases h1 : a = a' <;> by_cases h2 : b = b' <;> by_cases h3 : c = c' <;> simp [h1, h2, h3]

theorem run_neq_pk (p q : Pk) (w : World) : (binOp .neq 28 (.agg #[.int .i64 p.src, .int .i64 p.dst, .string p.data]) (.agg #[.int .i64 q.src, .int .i64 q.dst, .string q.data])).run Try.prog w = .ok (.bool (!decide (p = q))) w := by
  obtain ⟨a, b, c⟩ := p
  obtain ⟨a', b', c'⟩ := q
  have hp : Try.prog.stoodInHeld 28 = false := by kernel_rfl
  rw [run_neq_struct, run_equalIn_agg w 9999 28 _ _ (by kernel_rfl) hp]
  simp [go_sem]
  simp only [toList_eq_iff]
  by_cases h1 : a = a' <;> by_cases h2 : b = b' <;> by_cases h3 : c = c' <;> simp [h1, h2, h3]

def countP (p : Pk) (l : List Pk) : Nat := (l.filter fun q => decide (q = p)).length

theorem countP_le (p : Pk) (l : List Pk) : countP p l ≤ l.length := List.length_filter_le _ _
theorem countP_snoc (p : Pk) (l : List Pk) (k : Nat) (h : k < l.length) : countP p (l.take (k + 1)) = countP p (l.take k) + if l[k] = p then 1 else 0 := by
  unfold countP
  rw [List.take_succ_eq_append_getElem h, List.filter_append]
  by_cases e : l[k] = p <;> simp [e]

/-- The cells of a row of packets. -/
def CellsAt (w : World) (g : Nat) (l : List Pk) : Prop := ∀ i, (h : i < l.length) → w.cell? ⟨g, i * 3, none⟩ = some (.int .i64 l[i].src) ∧ w.cell? ⟨g, i * 3 + 1, none⟩ = some (.int .i64 l[i].dst) ∧ w.cell? ⟨g, i * 3 + 2, none⟩ = some (.string l[i].data)
theorem cellsAt {w : World} {base g cap : Nat} {l : List Pk} (hown : w.ownsRow base 28 3 (.slice (some ⟨g, 0, none⟩) l.length cap) l.length (pks l)) : CellsAt w g l := by
  have hcells := hown.cells (g := g) rfl
  intro i hi
  obtain ⟨x, y, z⟩ := pks_cell l i hi
  have e : ∀ j, (⟨g, 0, none⟩ : Addr).add j = ⟨g, j, none⟩ := fun j => by unfold Addr.add; split <;> simp_all
  exact ⟨e _ ▸ hcells _ _ x, e _ ▸ hcells _ _ y, e _ ▸ hcells _ _ z⟩

set_option maxHeartbeats 1000000 in
theorem count_any (base : Nat) (v : Value) (l : List Pk) (p : Pk) (w : World) (hown : w.ownsRow base 28 3 v l.length (pks l)) (hl : l.length ≤ 1000) :
    Calls Try.prog 13 #[v, p.agg] w fun e w' => e = .returned (.int .i64 (countP p l)) ∧ Below w.heap.size w w' := by
  rcases hown.2 with ⟨rfl, h0⟩ | ⟨g, cap, cur, rfl, _⟩
  · have hn : l = [] := List.eq_nil_of_length_eq_zero h0
    subst hn
    obtain ⟨src, dst, data⟩ := p
    show Calls Try.prog 13 #[_, .agg #[.int .i64 src, .int .i64 dst, .string data]] w _
    clear hown
    go_enter Try.func13, Try.ntmps13
    go_wp2
    refine wp_loop_once ?_
    go_wp2
    go_ret
    exact ⟨rfl, (Below.refl _ _).alloc (Nat.le_refl _) _⟩
  · have hlt := (hown.lt g rfl).2
    have HC := Lib.hid (cellsAt hown)
    clear hown
    obtain ⟨src, dst, data⟩ := p
    have hq := run_eql_pk
    show Calls Try.prog 13 #[_, .agg #[.int .i64 src, .int .i64 dst, .string data]] w _
    go_enter Try.func13, Try.ntmps13
    go_wp2
    go_loopw [5, 6] (fun n i wr => ∃ k : Nat, k ≤ l.length ∧ i = .int .i64 k ∧ n = .int .i64 (countP ⟨src, dst, data⟩ (l.take k)) ∧ ∃ m, wr = (w.alloc (.cells #[.int .i64 src, .int .i64 dst, .string data] 28)).drewN m) (fun _ i _ => l.length - (intOf i).toNat)
    case atStart => exact ⟨0, by omega, rfl, rfl, 0, rfl⟩
    case round =>
      obtain ⟨k, hk, rfl, rfl, m, rfl⟩ := hrel
      by_cases hlt2 : k < l.length
      · obtain ⟨x, y, z⟩ := HC.out k hlt2
        have e1 := hq l[k] ⟨src, dst, data⟩
        have i0 : (0 : Int) ≤ (k : Int) := by omega
        have i1 : (k : Int) < (l.length : Int) := by omega
        have HS := Lib.hid (countP_snoc ⟨src, dst, data⟩ l k hlt2)
        have hbd := countP_le ⟨src, dst, data⟩ (l.take k)
        have hbd2 : (l.take k).length ≤ l.length := by rw [List.length_take]; omega
        generalize l[k] = q at x y z e1 HS
        clear hq
        by_cases heq : q = ⟨src, dst, data⟩
        all_goals
          have e2 : ∀ wx, (binOp .eql 28 (.agg #[.int .i64 q.src, .int .i64 q.dst, .string q.data]) (.agg #[.int .i64 src, .int .i64 dst, .string data])).run Try.prog wx = .ok (.bool (decide (q = ⟨src, dst, data⟩))) wx := e1
          simp only [heq, decide_true, decide_false] at e2
          go_wp2_with fail
          go_quiet (fail)
          go_wp2
          go_roundw
          case rel => exact ⟨k + 1, by omega, by go_num, by rw [HS.out]; simp [heq], _, rfl⟩
          case measure => simp [intOf]; omega
      · go_wp2
        go_ret
        exact ⟨ret_int (by rw [List.take_of_length_le (by omega)]), below_drewN ((Below.refl _ _).alloc (Nat.le_refl _) _) _⟩

theorem lists_ne {α : Type} (l m : List α) (k : Nat) (h1 : k < l.length) (h2 : k < m.length) (h : l[k] ≠ m[k]) : l ≠ m := by
  rintro rfl; exact h rfl

set_option maxHeartbeats 1000000 in
theorem same_any (b1 b2 : Nat) (v u : Value) (l m : List Pk) (w : World) (h1 : w.ownsRow b1 28 3 v l.length (pks l)) (h2 : w.ownsRow b2 28 3 u m.length (pks m)) (hl : l.length ≤ 1000) (hm : m.length ≤ 1000) :
    Calls Try.prog 12 #[v, u] w fun e w' => e = .returned (.bool (decide (l = m))) ∧ ∃ n, w' = w.drewN n := by
  obtain ⟨A, c, rfl⟩ : ∃ A c, v = .slice A l.length c := by
    rcases h1.2 with ⟨rfl, h0⟩ | ⟨g, cap, cur, rfl, _⟩
    · rw [h0]; exact ⟨_, _, rfl⟩
    · exact ⟨_, _, rfl⟩
  obtain ⟨B, d, rfl⟩ : ∃ B d, u = .slice B m.length d := by
    rcases h2.2 with ⟨rfl, h0⟩ | ⟨g, cap, cur, rfl, _⟩
    · rw [h0]; exact ⟨_, _, rfl⟩
    · exact ⟨_, _, rfl⟩
  by_cases hlen : l.length = m.length
  · by_cases hz : l.length = 0
    · have hn : l = [] := List.eq_nil_of_length_eq_zero hz
      have hn2 : m = [] := List.eq_nil_of_length_eq_zero (by omega)
      subst hn; subst hn2
      clear h1 h2
      go_enter Try.func12, Try.ntmps12
      go_wp2
      refine wp_loop_once ?_
      go_wp2
      go_ret
      exact ⟨rfl, 0, rfl⟩
    · obtain ⟨g, hA⟩ : ∃ g, A = some ⟨g, 0, none⟩ := by
        rcases h1.2 with ⟨_, h0⟩ | ⟨g, cap, cur, hv, _⟩
        · omega
        · injection hv with hv; exact ⟨g, hv⟩
      obtain ⟨g', hB⟩ : ∃ g, B = some ⟨g, 0, none⟩ := by
        rcases h2.2 with ⟨_, h0⟩ | ⟨g, cap, cur, hv, _⟩
        · omega
        · injection hv with hv; exact ⟨g, hv⟩
      subst hA; subst hB
      have HC := Lib.hid (cellsAt h1)
      have HD := Lib.hid (cellsAt h2)
      clear h1 h2
      have hne : ((l.length : Int) != (m.length : Int)) = false := by simp [hlen]
      have HL := Lib.hid hlen
      clear hlen
      have hq := run_neq_pk
      go_enter Try.func12, Try.ntmps12
      go_wp2
      go_loopw [5] (fun i wr => ∃ k : Nat, k ≤ l.length ∧ i = .int .i64 k ∧ l.take k = m.take k ∧ ∃ n, wr = w.drewN n) (fun i _ => l.length - (intOf i).toNat)
      case atStart => exact ⟨0, by omega, rfl, by simp, 0, rfl⟩
      case round =>
        obtain ⟨k, hk, rfl, htk, n, rfl⟩ := hrel
        have HT := Lib.hid htk
        clear htk
        by_cases hlt2 : k < l.length
        · have hlt3 : k < m.length := by have := HL.out; omega
          obtain ⟨x, y, z⟩ := HC.out k hlt2
          obtain ⟨x', y', z'⟩ := HD.out k hlt3
          have e1 := hq l[k] m[k]
          have i0 : (0 : Int) ≤ (k : Int) := by omega
          have i1 : (k : Int) < (l.length : Int) := by omega
          have i2 : (k : Int) < (m.length : Int) := by omega
          have ea := List.take_succ_eq_append_getElem hlt2
          have eb := List.take_succ_eq_append_getElem hlt3
          have en := lists_ne l m k hlt2 hlt3
          have HS : Hid (l[k] = m[k] → l.take (k + 1) = m.take (k + 1)) := fun h => by rw [ea, eb, HT.out, h]
          have HN := Lib.hid en
          clear ea eb en
          generalize l[k] = q at x y z e1 HS HN
          generalize m[k] = r at x' y' z' e1 HS HN
          clear hq
          by_cases heq : q = r
          · simp only [heq, decide_true, Bool.not_true] at e1
            subst heq
            go_wp2_with fail
            go_quiet (fail)
            go_wp2
            go_roundw
            case rel => exact ⟨k + 1, by omega, by go_num, HS.out (by simp), _, rfl⟩
            case measure => simp [intOf]; omega
          · simp only [heq, decide_false, Bool.not_false] at e1
            go_wp2_with fail
            go_quiet (fail)
            go_wp2
            go_ret
            exact ⟨ret_bool (by have := HN.out heq; simp [this]), _, World.drewN_drewN _ _ _⟩
        · go_wp2
          go_ret
          exact ⟨ret_bool (by have := HT.out; have := HL.out; rw [List.take_of_length_le (by omega), List.take_of_length_le (by omega)] at *; simp_all), _, rfl⟩
  · have hne : ((l.length : Int) != (m.length : Int)) = true := by simp; omega
    have hd : l ≠ m := by rintro rfl; exact hlen rfl
    have HD := Lib.hid hd
    clear hlen hd h1 h2
    go_enter Try.func12, Try.ntmps12
    go_wp2
    go_ret
    exact ⟨ret_bool (by have := HD.out; simp [this]), 0, rfl⟩

set_option maxHeartbeats 1000000 in
theorem all_any (base g : Nat) (v : Value) (l : List Pk) (w : World) (h : NetAt w 48 base g v l) (hl : l.length ≤ 1000) :
    Calls Try.prog 9 #[.pointer (some ⟨g, 0, none⟩)] w fun e w' => ∃ v', e = .returned v' ∧ w'.ownsRow w.heap.size 28 3 v' l.length (pks l) ∧ Below w.heap.size w w' := by
  have hg := h.blk.cell 0
  simp only [List.getElem?_toArray, List.getElem?_cons_zero] at hg
  have HO := Lib.hid h.own
  clear h
  go_enter Try.func9, Try.ntmps9
  go_wp2_with (go_at_call 16; refine (clone_any base v l _ HO.out hl).mono ?_; rintro e w' ⟨v', rfl, ho, hb⟩)
  go_ret
  exact ⟨_, rfl, ho, hb⟩
end Go.Proofs.Ytnccgbcmencncaa
