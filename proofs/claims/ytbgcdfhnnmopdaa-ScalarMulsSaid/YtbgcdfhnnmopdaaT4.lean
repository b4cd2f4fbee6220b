/- Arguments: bytes, as they came in. -/
import Derived.Test.YtbgcdfhnnmopdaaT3
import Derived.ProofKit
import Derived.OpenShut
import Derived.Deep.Slices
import Derived.Deep.Fields
import Derived.ChangeSame
namespace Go.Proofs.Ytbgcdfhnnmopdaa
open Go.RowKit Go.ChangeShapes Go.WideShapes Go.Deep

section
variable {H : Type} {enc : TypeId × Value → H} {W : World} {base : Nat} {sp : Nat → Bool} {held : Bool}

theorem open_bytes {v : Value} {d : DataW H} {p : List MemPlace} (hv : Value.okWide Try.prog W .any base 22 v) (h : DataW.Trod enc Try.prog W 0 sp held 22 v d p) :
    ∃ A n c f, v = .slice A n c ∧ Rd W .u8 A n f ∧ n ≤ c ∧ c ≤ maxLen := by
  obtain ⟨A, n, c, rfl⟩ := okWide_slice Try.underlying22 hv
  obtain ⟨fuel, hf⟩ := h
  rcases open_ints Try.underlying22 Try.underlying5 (by kernel_rfl) hf with ⟨hcs, _⟩ | ⟨ad, len, cap, zs, hcs, _, hl, hm, hz, _, hc, hw⟩
  · simp [Value.cells] at hcs
    obtain ⟨rfl, rfl, rfl⟩ := hcs
    exact ⟨none, 0, 0, fun _ => 0, rfl, rd_nil W, Nat.le_refl _, Nat.zero_le _⟩
  · simp [Value.cells] at hcs
    obtain ⟨rfl, rfl, rfl⟩ := hcs
    have hlz : n ≤ zs.length := by rw [hz]; split <;> omega
    refine ⟨some ad, n, c, fun i => zs.getD i 0, rfl, ⟨fun hn => ?_, fun i => ?_⟩, hl, hm⟩
    · obtain ⟨b, o, spot⟩ := ad
      have h0 := hc 0 (by omega)
      have hspot : spot = none := by simpa [Addr.add] using World.cell?_spot h0
      subst hspot
      refine ⟨b, o, rfl, World.block_lt_of_cell? W _ h0, fun i hi => ?_⟩
      have := hc i (by omega)
      simpa only [Addr.add_lit] using this
    · have := range_u8 hw i
      simpa only [List.getD_eq_getElem?_getD] using this
end
end Go.Proofs.Ytbgcdfhnnmopdaa
