/- step, far: the walks. -/
import Derived.Test.YtcbfmpnkadkpdaaC3
set_option linter.unusedVariables false
namespace Go.Proofs.Ytcbfmpnkadkpdaa
open Go.RowKit Go.Maps

set_option maxHeartbeats 1000000 in
theorem step_any (b N : Nat) (agent : ByteArray) (d : ByteArray → Option Nat) (e : En) (w : World) (h : MapR w b N agent d) (hp : e.parent.size ≤ maxLen) (hbd : ∀ p n, d p = some n → n ≤ 1000) :
    Calls Try.prog 22 #[.map (some b), e.agg] w fun en w' => en = .returned (.tuple #[.int .i64 ((stepR agent d e).getD 1 : Nat), .bool (stepR agent d e).isSome]) ∧ w' = w.alloc (.cells #[.int .i64 e.n, .string e.path, .string e.parent, .int .i64 e.ttl, .slice e.A e.sel.length e.c] 28) := by
  have M1 := Lib.hid (h.below ((Below.refl _ w).alloc (Nat.le_refl _) (.cells #[.int .i64 e.n, .string e.path, .string e.parent, .int .i64 e.ttl, .slice e.A e.sel.length e.c] 28)))
  by_cases c : e.parent = agent
  · have HR : Hid (stepR agent d e = some 1) := Lib.hid (if_pos c)
    have hd : decide (e.parent = agent) = true := decide_eq_true c
    clear h c
    go_enter Try.func22, Try.ntmps22
    go_wp2_with (at_lookup; (with_reducible refine wpList_look_agent rfl (.tmp 11) (.tmp 14) rfl rfl M1.out e.parent hp rfl ?_); rw [hd])
    go_ret2
    exact ⟨by rw [HR.out]; rfl, rfl⟩
  · have hd : decide (e.parent = agent) = false := decide_eq_false c
    have HR : Hid (stepR agent d e = (d e.parent).map (· + 1)) := Lib.hid (if_neg c)
    obtain ⟨q, hq⟩ : ∃ q, q = (d e.parent).getD 0 := ⟨_, rfl⟩
    have hq2 : q ≤ 1000 := by
      rw [hq]
      cases hdp : d e.parent with
      | none => simp
      | some n => simpa using hbd _ _ hdp
    have wq : IntKind.i64.wrap ((q : Int) + 1) = (q : Int) + 1 := IntWalk.i64_in _ (by omega)
    obtain ⟨s, hs⟩ : ∃ s, s = (d e.parent).isSome := ⟨_, rfl⟩
    have HF : Hid ((Value.tuple #[.int .i64 ((q : Int) + 1), .bool s]) = .tuple #[.int .i64 ((stepR agent d e).getD 1 : Nat), .bool (stepR agent d e).isSome]) := Lib.hid (by
      rw [HR.out, hq, hs]
      cases d e.parent <;> rfl)
    have HQ := Lib.hid hq
    have HS := Lib.hid hs
    clear h c hq hs HR
    go_enter Try.func22, Try.ntmps22
    go_wp2_with (first
      | (at_lookup; (with_reducible refine wpList_look_agent rfl (.tmp 11) (.tmp 14) rfl rfl M1.out e.parent hp rfl ?_); rw [hd])
      | (at_lookup; (with_reducible refine wpList_look_path rfl (.tmp 22) (.tmp 25) rfl rfl M1.out e.parent hp rfl ?_); rw [← HQ.out, ← HS.out]))
    go_ret2
    exact ⟨congrArg _ HF.out, rfl⟩
end Go.Proofs.Ytcbfmpnkadkpdaa
