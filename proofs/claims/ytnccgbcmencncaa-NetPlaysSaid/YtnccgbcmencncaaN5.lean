/- The net's walker: 'with'; then Take and Copy. -/
import Derived.Test.YtnccgbcmencncaaN4
namespace Go.Proofs.Ytnccgbcmencncaa
open Go.RowKit

def I64 (x : Int) : Prop := -9223372036854775808 ≤ x ∧ x ≤ 9223372036854775807
/-- A number that is not below 0, for each. -/
def up (k : Int) : Int := if k < 0 then -(k + 1) else k
/-- The place of the k-th of n. -/
def place (k : Int) (n : Nat) : Nat := (up k % n).toNat
theorem up_nonneg (k : Int) : 0 ≤ up k := by unfold up; omega
theorem place_lt (k : Int) (n : Nat) (h : 0 < n) : place k n < n := by
  unfold place
  have := Int.emod_lt_of_pos (up k) (show (0 : Int) < n by omega)
  have := Int.emod_nonneg (up k) (show (n : Int) ≠ 0 by omega)
  omega
theorem place_int (k : Int) (n : Nat) (h : 0 < n) : up k % n = ((place k n : Nat) : Int) := by
  unfold place
  have := Int.emod_nonneg (up k) (show (n : Int) ≠ 0 by omega)
  omega
theorem i64_not_any (k : Int) (hk : I64 k) : bits .xor .i64 (-1) k = -(k + 1) := by
  unfold I64 at hk
  show IntKind.i64.wrap ((BitVec.ofInt 64 (-1) ^^^ BitVec.ofInt 64 k).toNat : Int) = _
  have h1 : BitVec.ofInt 64 (-1) = BitVec.allOnes 64 := by decide
  rw [h1, BitVec.allOnes_xor, BitVec.toNat_not, BitVec.toNat_ofInt, IntKind.wrap_i64]
  omega

set_option maxHeartbeats 1000000 in
theorem with_none (base g : Nat) (v : Value) (k : Int) (f : Value) (w : World) (h : NetAt w 48 base g v []) :
    Calls Try.prog 20 #[.pointer (some ⟨g, 0, none⟩), .int .i64 k, f] w fun e w' => e = .returned (.bool false) ∧ w = w' := by
  obtain ⟨A, c, rfl⟩ : ∃ A c, v = .slice A 0 c := by
    rcases h.own.2 with ⟨rfl, h0⟩ | ⟨g, cap, cur, rfl, _⟩
    · exact ⟨_, _, rfl⟩
    · exact ⟨_, _, rfl⟩
  have hg := h.blk.cell 0
  simp only [List.getElem?_toArray, List.getElem?_cons_zero] at hg
  clear h
  go_enter Try.func20, Try.ntmps20
  go_wp2
  go_ret
  exact ⟨rfl, rfl⟩

set_option maxHeartbeats 1000000 in
theorem with_some (base g : Nat) (v : Value) (k : Int) (F : Nat) (c1 c2 : Value) (l : List Pk) (w : World) (R : World → Prop) (h : NetAt w 48 base g v l) (hl : 0 < l.length) (hl2 : l.length ≤ 1000) (hk : I64 k)
    (hcf : ∀ (args : Array Value) (wx : World), (callFunc F args).run Try.prog wx = .ok (.enter F args) wx)
    (hc : Calls Try.prog F #[.int .i64 (place k l.length), c1, c2] w fun e w' => e = .returned (.tuple #[]) ∧ R w') :
    Calls Try.prog 20 #[.pointer (some ⟨g, 0, none⟩), .int .i64 k, .func (.func F) #[] #[c1, c2]] w fun e w' => e = .returned (.bool true) ∧ R w' := by
  obtain ⟨A, c, rfl⟩ : ∃ A c, v = .slice A l.length c := by
    rcases h.own.2 with ⟨rfl, h0⟩ | ⟨g, cap, cur, rfl, _⟩
    · rw [h0]; exact ⟨_, _, rfl⟩
    · exact ⟨_, _, rfl⟩
  have hg := h.blk.cell 0
  simp only [List.getElem?_toArray, List.getElem?_cons_zero] at hg
  have hne : ((l.length : Int) == 0) = false := by simp only [beq_eq_false_iff_ne, ne_eq]; omega
  have hp := place_int k l.length hl
  have HC := Lib.hid hc
  have hx := i64_not_any k hk
  unfold I64 at hk
  clear h hc
  by_cases h0 : k < 0
  · have e0 : up k = -(k + 1) := by unfold up; omega
    rw [e0] at hp
    have hp' : -((k + 1).tmod (l.length : Int)) = ((place k l.length : Nat) : Int) := by rw [← hp, ← Int.neg_tmod, Int.tmod_eq_emod_of_nonneg (by omega)]
    clear e0 hp
    go_enter Try.func20, Try.ntmps20
    go_wp2_with fail
    refine HC.out.mono ?_
    rintro e w' ⟨rfl, hr⟩
    have HR := Lib.hid hr
    clear hr
    go_wp2_with fail
    go_ret
    exact ⟨rfl, HR.out⟩
  · have e0 : up k = k := by unfold up; omega
    rw [e0] at hp
    clear e0 hx
    go_enter Try.func20, Try.ntmps20
    go_wp2_with fail
    refine HC.out.mono ?_
    rintro e w' ⟨rfl, hr⟩
    have HR := Lib.hid hr
    clear hr
    go_wp2_with fail
    go_ret
    exact ⟨rfl, HR.out⟩
end Go.Proofs.Ytnccgbcmencncaa
