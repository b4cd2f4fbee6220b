/- Ways to an agent: plain laws. -/
import Derived.Test.YtcbfmpnkadkpdaaRows
import Derived.WalkKit
set_option linter.unusedVariables false
namespace Go.Proofs.Ytcbfmpnkadkpdaa

/-- An entry. -/
structure En where
  n : Int
  path : ByteArray
  parent : ByteArray
  ttl : Int
  A : Option Addr
  c : Nat
  sel : List ByteArray
instance : Inhabited En := ⟨⟨0, .empty, .empty, 0, none, 0, []⟩⟩

/-- How many entries are from an entry to the agent, where d tells it of paths. -/
def stepR (agent : ByteArray) (d : ByteArray → Option Nat) (e : En) : Option Nat :=
  if e.parent = agent then some 1 else (d e.parent).map (· + 1)

theorem stepR_mono {agent : ByteArray} {d d' : ByteArray → Option Nat} (h : ∀ p m, d p = some m → ∃ m', d' p = some m' ∧ m' ≤ m) (e : En) (m : Nat) (hs : stepR agent d e = some m) : ∃ m', stepR agent d' e = some m' ∧ m' ≤ m := by
  unfold stepR at hs ⊢
  by_cases c : e.parent = agent
  · rw [if_pos c] at hs ⊢
    exact ⟨1, rfl, by simp at hs; omega⟩
  · rw [if_neg c] at hs ⊢
    cases hd : d e.parent with
    | none => rw [hd] at hs; cases hs
    | some k =>
      rw [hd] at hs
      simp at hs
      obtain ⟨m', h1, h2⟩ := h _ _ hd
      exact ⟨m' + 1, by rw [h1]; rfl, by omega⟩

/-- A path's number told anew. -/
def upd (d : ByteArray → Option Nat) (p : ByteArray) (n : Nat) : ByteArray → Option Nat := fun q => if q = p then some n else d q
theorem upd_le {d : ByteArray → Option Nat} {p : ByteArray} {n : Nat} (h : ∀ m, d p = some m → n ≤ m) : ∀ q m, d q = some m → ∃ m', upd d p n q = some m' ∧ m' ≤ m := by
  intro q m hq
  unfold upd
  by_cases c : q = p
  · subst c
    exact ⟨n, if_pos rfl, h m hq⟩
  · exact ⟨m, by rw [if_neg c]; exact hq, Nat.le_refl _⟩

def cnt (l : List En) (d : ByteArray → Option Nat) : Nat := (l.filter fun e => (d e.path).isSome).length
theorem cnt_le (l : List En) (d : ByteArray → Option Nat) : cnt l d ≤ l.length := List.length_filter_le _ _
def wgt (N : Nat) : Option Nat → Nat
  | none => N + 1
  | some n => n
def mass (l : List En) (N : Nat) (d : ByteArray → Option Nat) : Nat := (l.map fun e => wgt N (d e.path)).sum

/-- What lies while it is reckoned. -/
structure Way (agent : ByteArray) (l : List En) (d : ByteArray → Option Nat) : Prop where
  pos : ∀ p n, d p = some n → 1 ≤ n
  sup : ∀ p n, d p = some n → ∃ e ∈ l, e.path = p ∧ ∃ m, stepR agent d e = some m ∧ m ≤ n
  bnd : ∀ p n, d p = some n → n ≤ cnt l d

theorem way_none (agent : ByteArray) (l : List En) : Way agent l (fun _ => none) := ⟨fun _ _ h => (by cases h), fun _ _ h => (by cases h), fun _ _ h => (by cases h)⟩

theorem cnt_upd (l : List En) (d : ByteArray → Option Nat) (p : ByteArray) (n : Nat) : cnt l d ≤ cnt l (upd d p n) := by
  unfold cnt
  induction l with
  | nil => exact Nat.le_refl _
  | cons e l ih =>
    simp only [List.filter_cons]
    by_cases c : e.path = p
    · have h1 : (upd d p n e.path).isSome = true := by unfold upd; rw [if_pos c]; rfl
      rw [if_pos h1]
      split
      · simp only [List.length_cons]; omega
      · simp only [List.length_cons]; omega
    · have h1 : (upd d p n e.path) = d e.path := by unfold upd; rw [if_neg c]
      rw [h1]
      split
      · simp only [List.length_cons]; omega
      · exact ih
theorem cnt_new (l : List En) (d : ByteArray → Option Nat) (e : En) (he : e ∈ l) (hd : d e.path = none) (n : Nat) : cnt l d + 1 ≤ cnt l (upd d e.path n) := by
  induction l with
  | nil => cases he
  | cons x l ih =>
    unfold cnt at ih ⊢
    simp only [List.filter_cons]
    by_cases c : x.path = e.path
    · have h1 : (upd d e.path n x.path).isSome = true := by unfold upd; rw [if_pos c]; rfl
      have h2 : (d x.path).isSome = false := by rw [c, hd]; rfl
      rw [if_pos h1, if_neg (by rw [h2]; decide)]
      have := cnt_upd l d e.path n
      unfold cnt at this
      simp only [List.length_cons]
      omega
    · have h1 : (upd d e.path n x.path) = d x.path := by unfold upd; rw [if_neg c]
      rw [h1]
      have he2 : e ∈ l := by
        rcases List.mem_cons.1 he with rfl | h
        · exact absurd rfl c
        · exact h
      have := ih he2
      split
      · simp only [List.length_cons]; omega
      · exact this

/-- An entry that shows a shorter way. -/
theorem way_step {agent : ByteArray} {l : List En} {d : ByteArray → Option Nat} (h : Way agent l d) (e : En) (he : e ∈ l) (n : Nat) (hn : stepR agent d e = some n) (hb : ∀ m, d e.path = some m → n < m) : Way agent l (upd d e.path n) := by
  have hle := upd_le (d := d) (p := e.path) (n := n) (fun m hm => Nat.le_of_lt (hb m hm))
  have hn1 : 1 ≤ n := by
    unfold stepR at hn
    split at hn
    · simp at hn; omega
    · cases hd : d e.parent with
      | none => rw [hd] at hn; cases hn
      | some k => rw [hd] at hn; simp at hn; omega
  have hbn : n ≤ cnt l d + 1 := by
    unfold stepR at hn
    split at hn
    · simp at hn; omega
    · cases hd : d e.parent with
      | none => rw [hd] at hn; cases hn
      | some k =>
        rw [hd] at hn
        simp at hn
        have := h.bnd _ _ hd
        omega
  refine ⟨fun p m hp => ?_, fun p m hp => ?_, fun p m hp => ?_⟩
  · unfold upd at hp
    split at hp
    · simp at hp; omega
    · exact h.pos p m hp
  · by_cases c : p = e.path
    · subst c
      have : m = n := by unfold upd at hp; rw [if_pos rfl] at hp; simp at hp; exact hp.symm
      subst this
      obtain ⟨m', h1, h2⟩ := stepR_mono hle e m hn
      exact ⟨e, he, rfl, m', h1, h2⟩
    · have hp' : d p = some m := by unfold upd at hp; rw [if_neg c] at hp; exact hp
      obtain ⟨x, hx, hxp, k, hk, hkm⟩ := h.sup p m hp'
      obtain ⟨m', h1, h2⟩ := stepR_mono hle x k hk
      exact ⟨x, hx, hxp, m', h1, by omega⟩
  · by_cases c : p = e.path
    · subst c
      have : m = n := by unfold upd at hp; rw [if_pos rfl] at hp; simp at hp; exact hp.symm
      subst this
      cases hd : d e.path with
      | none => have := cnt_new l d e he hd m; omega
      | some k =>
        have h1 := hb k hd
        have h2 := h.bnd _ _ hd
        have h3 := cnt_upd l d e.path m
        omega
    · have hp' : d p = some m := by unfold upd at hp; rw [if_neg c] at hp; exact hp
      have h2 := h.bnd _ _ hp'
      have h3 := cnt_upd l d e.path n
      omega

theorem mass_le (N : Nat) (d d' : ByteArray → Option Nat) (h : ∀ p, wgt N (d' p) ≤ wgt N (d p)) : ∀ l : List En, mass l N d' ≤ mass l N d
  | [] => Nat.le_refl _
  | e :: l => by
    have := mass_le N d d' h l
    have := h e.path
    unfold mass at *
    simp only [List.map_cons, List.sum_cons]
    omega
theorem mass_step {agent : ByteArray} {l : List En} {d : ByteArray → Option Nat} (h : Way agent l d) (e : En) (he : e ∈ l) (n : Nat) (hn : stepR agent d e = some n) (hb : ∀ m, d e.path = some m → n < m) : mass l l.length (upd d e.path n) < mass l l.length d := by
  have w := way_step h e he n hn hb
  have hnl : n ≤ l.length := Nat.le_trans (w.bnd e.path n (by unfold upd; rw [if_pos rfl])) (cnt_le _ _)
  have hlt : wgt l.length (upd d e.path n e.path) < wgt l.length (d e.path) := by
    unfold upd
    rw [if_pos rfl]
    cases hd : d e.path with
    | none => show n < l.length + 1; omega
    | some k => exact hb k hd
  have hall : ∀ p, wgt l.length (upd d e.path n p) ≤ wgt l.length (d p) := by
    intro p
    by_cases c : p = e.path
    · subst c; exact Nat.le_of_lt hlt
    · unfold upd; rw [if_neg c]; exact Nat.le_refl _
  generalize l.length = N at *
  clear w h hn hb hnl
  induction l with
  | nil => cases he
  | cons x l ih =>
    unfold mass at ih ⊢
    simp only [List.map_cons, List.sum_cons]
    rcases List.mem_cons.1 he with rfl | he
    · have := mass_le N d (upd d e.path n) hall l
      unfold mass at this
      omega
    · have := ih he
      have := hall x.path
      omega

/-- Where no entry shows a shorter way any more. -/
structure Done (agent : ByteArray) (l : List En) (d : ByteArray → Option Nat) : Prop where
  way : Way agent l d
  shut : ∀ e ∈ l, ∀ n, stepR agent d e = some n → ∃ m, d e.path = some m ∧ m ≤ n
theorem Done.sup {agent : ByteArray} {l : List En} {d : ByteArray → Option Nat} (h : Done agent l d) (p : ByteArray) (n : Nat) (hp : d p = some n) : ∃ e ∈ l, e.path = p ∧ stepR agent d e = some n := by
  obtain ⟨e, he, hep, m, hm, hmn⟩ := h.way.sup p n hp
  obtain ⟨m', h1, h2⟩ := h.shut e he m hm
  rw [hep, hp] at h1
  have : n = m' := by simpa using h1
  exact ⟨e, he, hep, by rw [hm]; congr 1; omega⟩
theorem Done.le {agent : ByteArray} {l : List En} {d : ByteArray → Option Nat} (h : Done agent l d) (e : En) (n : Nat) (hs : stepR agent d e = some n) (he : e ∈ l) : 1 ≤ n ∧ n ≤ l.length + 1 := by
  unfold stepR at hs
  split at hs
  · simp at hs; omega
  · cases hd : d e.parent with
    | none => rw [hd] at hs; cases hs
    | some k =>
      rw [hd] at hs
      simp at hs
      have h1 := h.way.bnd _ _ hd
      have h2 := cnt_le l d
      omega
end Go.Proofs.Ytcbfmpnkadkpdaa
