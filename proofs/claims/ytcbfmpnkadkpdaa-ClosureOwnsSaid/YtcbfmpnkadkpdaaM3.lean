/- The way by which an entry is used: plain laws. -/
import Derived.Test.YtcbfmpnkadkpdaaM2
set_option linter.unusedVariables false
namespace Go.Proofs.Ytcbfmpnkadkpdaa

/-- The entries of path par, that are left entries from the agent. -/
def isNext (agent : ByteArray) (d : ByteArray → Option Nat) (left : Nat) (par : ByteArray) (e : En) : Bool := decide (stepR agent d e = some left ∧ e.path = par)
def parI (l : List En) (i : Nat) : ByteArray := if h : i < l.length then l[i].parent else .empty
def nextI (agent : ByteArray) (d : ByteArray → Option Nat) (l : List En) (left i : Nat) : Nat := l.findIdx (isNext agent d left (parI l i))
/-- From an entry on, that is left entries from the agent. -/
def chainFrom (agent : ByteArray) (d : ByteArray → Option Nat) (l : List En) : Nat → Nat → List Nat
  | 0, i => [i]
  | left + 1, i => i :: (if left = 0 then [] else chainFrom agent d l left (nextI agent d l left i))
def isN (n : Int) (e : En) : Bool := decide (e.n = n)
def chainL (agent : ByteArray) (d : ByteArray → Option Nat) (l : List En) (n : Int) : List Nat :=
  if farN agent d l (l.findIdx (isN n)) = 0 then [] else chainFrom agent d l (farN agent d l (l.findIdx (isN n))) (l.findIdx (isN n))

theorem farN_some {agent : ByteArray} {d : ByteArray → Option Nat} {l : List En} (h : Done agent l d) {i : Nat} (hi : i < l.length) (r : Nat) (hr : r ≠ 0) : farN agent d l i = r ↔ stepR agent d l[i] = some r := by
  unfold farN
  rw [dif_pos hi]
  cases hs : stepR agent d l[i] with
  | none => simp; omega
  | some m => simp
theorem farN_none {agent : ByteArray} {d : ByteArray → Option Nat} {l : List En} (h : Done agent l d) {i : Nat} (hi : i < l.length) : farN agent d l i = 0 ↔ stepR agent d l[i] = none := by
  unfold farN
  rw [dif_pos hi]
  cases hs : stepR agent d l[i] with
  | none => simp
  | some m =>
    have := (h.le _ m hs (List.getElem_mem hi)).1
    simp; omega
theorem farN_out {agent : ByteArray} {d : ByteArray → Option Nat} {l : List En} {i : Nat} (hi : ¬ i < l.length) : farN agent d l i = 0 := by
  unfold farN
  rw [dif_neg hi]
theorem next_lt {agent : ByteArray} {d : ByteArray → Option Nat} {l : List En} (h : Done agent l d) {i left : Nat} (hi : i < l.length) (hl : 1 ≤ left) (hs : stepR agent d l[i] = some (left + 1)) :
    nextI agent d l left i < l.length := by
  obtain ⟨k, hk, hp, hf⟩ := farN_prev h i left hi hl ((farN_some h hi _ (by omega)).2 hs)
  refine List.findIdx_lt_length.2 ⟨l[k], List.getElem_mem hk, ?_⟩
  refine decide_eq_true ⟨(farN_some h hk left (by omega)).1 hf, ?_⟩
  rw [hp, parI, dif_pos hi]
theorem next_is {agent : ByteArray} {d : ByteArray → Option Nat} {l : List En} {i left : Nat} (hk : nextI agent d l left i < l.length) : stepR agent d l[nextI agent d l left i] = some left ∧ l[nextI agent d l left i].path = parI l i :=
  of_decide_eq_true (List.findIdx_getElem (w := hk))
theorem chainFrom_one (agent : ByteArray) (d : ByteArray → Option Nat) (l : List En) (i : Nat) : chainFrom agent d l 1 i = [i] := rfl
theorem chainFrom_more (agent : ByteArray) (d : ByteArray → Option Nat) (l : List En) (left i : Nat) (h : 1 ≤ left) : chainFrom agent d l (left + 1) i = i :: chainFrom agent d l left (nextI agent d l left i) := by
  unfold chainFrom
  rw [if_neg (by omega)]
  cases left <;> rfl
theorem chainFrom_ne (agent : ByteArray) (d : ByteArray → Option Nat) (l : List En) (left i : Nat) : ∃ t, chainFrom agent d l left i = i :: t := by
  cases left
  · exact ⟨_, rfl⟩
  · exact ⟨_, rfl⟩
theorem chainFrom_len (agent : ByteArray) (d : ByteArray → Option Nat) (l : List En) : ∀ left i, 1 ≤ left → (chainFrom agent d l left i).length = left
  | 0, _, h => by omega
  | 1, i, _ => rfl
  | left + 2, i, _ => by
    rw [chainFrom_more _ _ _ _ _ (by omega), List.length_cons, chainFrom_len agent d l (left + 1) _ (by omega)]
/-- It goes from entry to entry, and ends at the agent. -/
theorem chainFrom_goes {agent : ByteArray} {d : ByteArray → Option Nat} {l : List En} (h : Done agent l d) : ∀ left i, 1 ≤ left → (hi : i < l.length) → stepR agent d l[i] = some left →
    ∀ q, (hq : q < (chainFrom agent d l left i).length) → ∃ hl : (chainFrom agent d l left i)[q] < l.length, (q + 1 = (chainFrom agent d l left i).length → l[(chainFrom agent d l left i)[q]].parent = agent) ∧
      ∀ hq2 : q + 1 < (chainFrom agent d l left i).length, ∃ hl2 : (chainFrom agent d l left i)[q + 1] < l.length, l[(chainFrom agent d l left i)[q]].parent = l[(chainFrom agent d l left i)[q + 1]].path
  | 0, _, h0, _, _ => by omega
  | 1, i, _, hi, hs => by
    have e : chainFrom agent d l 1 i = [i] := rfl
    rw [e]
    intro q hq
    have hq0 : q = 0 := by simpa using hq
    subst hq0
    refine ⟨hi, fun _ => ?_, fun hq2 => by simp at hq2⟩
    show l[i].parent = agent
    unfold stepR at hs
    by_cases c : l[i].parent = agent
    · exact c
    · rw [if_neg c] at hs
      cases hd : d l[i].parent with
      | none => rw [hd] at hs; cases hs
      | some m =>
        have := h.way.pos _ _ hd
        rw [hd] at hs
        simp at hs
        omega
  | left + 2, i, _, hi, hs => by
    have hk := next_lt h hi (by omega : 1 ≤ left + 1) hs
    obtain ⟨n1, n2⟩ := next_is hk
    have ih := chainFrom_goes h (left + 1) _ (by omega) hk n1
    rw [chainFrom_more _ _ _ _ _ (by omega : 1 ≤ left + 1)]
    generalize nextI agent d l (left + 1) i = i2 at *
    obtain ⟨t, ht⟩ := chainFrom_ne agent d l (left + 1) i2
    have hlen := chainFrom_len agent d l (left + 1) i2 (by omega)
    rw [ht] at ih hlen ⊢
    intro q hq
    cases q with
    | zero =>
      refine ⟨hi, fun he => by simp at he, fun _ => ⟨hk, ?_⟩⟩
      show l[i].parent = l[i2].path
      rw [n2, parI, dif_pos hi]
    | succ q =>
      obtain ⟨a, b, c⟩ := ih q (by simpa using hq)
      refine ⟨a, fun he => b (by simpa using he), fun hq2 => c (by simpa using hq2)⟩
/-- Where what is told of it is told twice, it is the same. -/
theorem done_le {agent : ByteArray} {l : List En} {d d' : ByteArray → Option Nat} (h : Done agent l d) (h' : Done agent l d') : ∀ n p, d p = some n → ∃ m, d' p = some m ∧ m ≤ n
  | n, p, hp => by
    obtain ⟨e, he, hep, hs⟩ := h.sup p n hp
    have hs' : ∃ m, stepR agent d' e = some m ∧ m ≤ n := by
      unfold stepR at hs ⊢
      by_cases c : e.parent = agent
      · rw [if_pos c] at hs ⊢
        exact ⟨1, rfl, by simp at hs; omega⟩
      · rw [if_neg c] at hs ⊢
        cases hd : d e.parent with
        | none => rw [hd] at hs; cases hs
        | some k =>
          rw [hd] at hs
          have hk : k + 1 = n := by simpa using hs
          obtain ⟨m, hm, hmk⟩ := done_le h h' k e.parent hd
          exact ⟨m + 1, by rw [hm]; rfl, by omega⟩
    obtain ⟨m, hm, hmn⟩ := hs'
    obtain ⟨m2, h2, h3⟩ := h'.shut e he m hm
    rw [hep] at h2
    exact ⟨m2, h2, by omega⟩
termination_by n => n
decreasing_by omega
theorem done_eq {agent : ByteArray} {l : List En} {d d' : ByteArray → Option Nat} (h : Done agent l d) (h' : Done agent l d') : d = d' := by
  funext p
  cases hd : d p with
  | none =>
    cases hd' : d' p with
    | none => rfl
    | some m =>
      obtain ⟨k, hk, _⟩ := done_le h' h m p hd'
      rw [hd] at hk
      cases hk
  | some n =>
    obtain ⟨m, hm, h1⟩ := done_le h h' n p hd
    obtain ⟨k, hk, h2⟩ := done_le h' h m p hm
    rw [hd] at hk
    injection hk with hk
    rw [hm]
    congr 1
    omega
theorem way_done {agent : ByteArray} {l : List En} (d : ByteArray → Option Nat) (h : Way agent l d) : ∃ d', Done agent l d' := by
  by_cases hs : ∀ e ∈ l, ∀ n, stepR agent d e = some n → ∃ m, d e.path = some m ∧ m ≤ n
  · exact ⟨d, h, hs⟩
  · have hex : ∃ e, e ∈ l ∧ ∃ n, stepR agent d e = some n ∧ ∀ m, d e.path = some m → n < m := by
      refine Classical.byContradiction fun hc => hs fun e he n hn => Classical.byContradiction fun hm => hc ⟨e, he, n, hn, fun m hme => ?_⟩
      refine Nat.lt_of_not_le fun hle => hm ⟨m, hme, hle⟩
    obtain ⟨e, he, n, hn, hb⟩ := hex
    have := mass_step h e he n hn hb
    exact way_done (upd d e.path n) (way_step h e he n hn hb)
termination_by mass l l.length d
/-- What is told of the ways, in the end. -/
noncomputable def wayD (agent : ByteArray) (l : List En) : ByteArray → Option Nat := Classical.choose (way_done _ (way_none agent l))
theorem wayD_done (agent : ByteArray) (l : List En) : Done agent l (wayD agent l) := Classical.choose_spec (way_done _ (way_none agent l))
end Go.Proofs.Ytcbfmpnkadkpdaa
