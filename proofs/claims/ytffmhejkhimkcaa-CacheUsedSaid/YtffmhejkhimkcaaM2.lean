/- What is used stays: plain laws. -/
import Derived.Test.YtffmhejkhimkcaaM1
set_option linter.unusedVariables false
namespace Go.Proofs.Ytffmhejkhimkcaa

def mineS : ByteArray := ⟨#[109, 105, 110, 101]⟩
def mine0 : Kt := ⟨-1, ⟨#[]⟩, mineS, 0, 10, 0, ⟨#[]⟩⟩
/-- The one that was used last is ours. -/
def Mine (L : List Kt) (u : Int) : Prop :=
  ∃ m ∈ L, isM (-1) ⟨#[]⟩ m = true ∧ m.token = mineS ∧ m.exp = 10 ∧ m.used = u ∧ ∀ x ∈ L, x ≠ m → x.used < u

theorem mine_first : Mine (putL [] 0 mine0) 1 := by
  refine ⟨{ mine0 with used := 1 }, ?_, ?_, ?_, ?_, ?_, ?_⟩
  · decide
  · decide
  · decide
  · decide
  · decide
  · intro x hx hne
    have e : putL [] 0 mine0 = [{ mine0 with used := 1 }] := by decide
    rw [e, List.mem_singleton] at hx
    exact absurd hx hne

theorem mine_step (L : List Kt) (u : Int) (x : Kt) (hm : Mine L u) (hw : WF L u) (hu : 0 ≤ u) (hx : x.entry ≠ -1) :
    (∃ y ∈ putL L u x, isM (-1) ⟨#[]⟩ y = true ∧ 5 < y.exp) ∧ ∀ k (hk : k < (putL L u x).length), isM (-1) ⟨#[]⟩ (putL L u x)[k] = true →
      (putL L u x)[k].token = mineS ∧ Mine ((putL L u x).set k { (putL L u x)[k] with used := u + 1 + 1 }) (u + 1 + 1) := by
  obtain ⟨m, hmL, m1, m2, m3, m4, m5⟩ := hm
  obtain ⟨B, hB, hB5, hsub, hBm, hstay⟩ := putL_shape L u x hw
  have w1 := putL_wf L u x hw hu
  have me := (isM_iff _ _ _).1 m1
  have hmB : m ∈ B := by
    refine hstay m hmL ?_ ?_
    · rw [isM_not]
      rintro ⟨e, _⟩
      exact hx (e.symm.trans me.1)
    · by_cases c : L.length ≤ 5
      · exact .inr c
      · have c0 : 0 < L.length := by omega
        have c1 : 1 < L.length := by omega
        by_cases d : L[0] = m
        · have d1 : L[1] ≠ m := by
            intro e
            have := hw.ones.uniq 0 1 c0 c1 (by rw [d, e]) (by rw [d, e])
            omega
          exact .inl ⟨L[1], List.getElem_mem c1, by rw [m4]; exact m5 _ (List.getElem_mem c1) d1⟩
        · exact .inl ⟨L[0], List.getElem_mem c0, by rw [m4]; exact m5 _ (List.getElem_mem c0) d⟩
  have hmP : m ∈ putL L u x := by rw [hB]; exact List.mem_append_left _ hmB
  refine ⟨⟨m, hmP, m1, by rw [m3]; decide⟩, fun k hk hp => ?_⟩
  have pe := (isM_iff _ _ _).1 hp
  have hkm : (putL L u x)[k] = m := by
    obtain ⟨j, hj, ej⟩ := List.getElem_of_mem hmP
    have := w1.ones.uniq k j hk hj (by rw [ej, pe.1, me.1]) (by rw [ej, pe.2, me.2])
    subst this
    exact ej
  rw [hkm]
  refine ⟨m2, { m with used := u + 1 + 1 }, ?_, ?_, m2, m3, rfl, fun y hy hne => ?_⟩
  · exact List.mem_set hk _
  · exact m1
  · rcases List.mem_or_eq_of_mem_set hy with hy | hy
    · have := (w1.used y hy).2
      omega
    · exact absurd hy hne
end Go.Proofs.Ytffmhejkhimkcaa
