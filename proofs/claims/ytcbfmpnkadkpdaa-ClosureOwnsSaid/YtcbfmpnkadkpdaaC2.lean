/- The map of ways: what it holds. -/
import Derived.Test.YtcbfmpnkadkpdaaC1
import Derived.DeepKeys4
import Derived.Maps.Own
import Derived.Maps.OwnOps
import Derived.Maps.OwnSet
import Derived.Maps.Views
set_option linter.unusedVariables false
namespace Go.Proofs.Ytcbfmpnkadkpdaa
open Go.RowKit Go.Maps

theorem laidOut : laidOutB Try.prog = true := by kernel_rfl
theorem row50 : (50 : TypeId) < Try.prog.types.size := of_decide_eq_true (by kernel_rfl)
theorem wide50 : (match Try.prog.underlying 50 with | some (.array _ _) | some (.struct _) => true | _ => false) = true := by kernel_rfl
theorem law50 : WideMaps.KeyLaw Try.prog 50 := deep_law_laid laidOut (m := 2) (by omega) row50 (by kernel_rfl) wide50
theorem keyed50 : Keyed Try.prog 50 := Keyed.of_law law50
def kl (b : Bool) (p : ByteArray) : Lit := .string (keyBytes [.bool b, .string p.data.toList])
theorem key_mk (b : Bool) (p : ByteArray) (hp : p.size ≤ maxLen) : keyOf Try.prog 50 (.agg #[.bool b, .string p]) = some (kl b p) := by
  have hk : Try.prog.keyType 50 = true := by kernel_rfl
  have hc : Try.prog.cellsOf 50 = 2 := by kernel_rfl
  have hc4 : Try.prog.cellsOf 4 = 1 := by kernel_rfl
  have hc9 : Try.prog.cellsOf 9 = 1 := by kernel_rfl
  have hf : (Value.agg #[.bool b, .string p]).formed Try.prog 50 = true := by simp [Value.formed, Try.underlying50, hc]
  obtain ⟨m, hm⟩ : ∃ m, Try.prog.types.size = m + 1 := ⟨Try.prog.types.size - 1, by kernel_rfl⟩
  have hl : Try.prog.keyLits (Try.prog.types.size + 1) 50 [.bool b, .string p] = some [.bool b, .string p.data.toList] := by
    rw [hm]
    simp [Program.keyLits, Try.underlying50, Try.underlying4, Try.underlying9, hc, hc4, hc9, hp]
  unfold keyOf
  simp only [Try.underlying50, hk, hf, Bool.and_self, if_true]
  show (Try.prog.keyLits (Try.prog.types.size + 1) 50 [.bool b, .string p]).map _ = _
  rw [hl]
  rfl
theorem kl_inj {b b' : Bool} {p p' : ByteArray} (hp : p.size ≤ maxLen) (hp' : p'.size ≤ maxLen) (h : kl b p = kl b' p') : b = b' ∧ p = p' := by
  have h1 := key_mk b p hp
  have h2 := key_mk b' p' hp'
  rw [← h] at h2
  have := keyed50.inj h1 h2
  simp at this
  exact this
end Go.Proofs.Ytcbfmpnkadkpdaa
