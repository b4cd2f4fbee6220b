/- Ways to an agent, as the document reckons them: plain laws. -/
import Derived.Test.YtcbfmpnkadkpdaaM1
set_option linter.unusedVariables false
namespace Go.Proofs.Ytcbfmpnkadkpdaa

/-- How far each entry is, by d. -/
def farN (agent : ByteArray) (d : ByteArray → Option Nat) (l : List En) (i : Nat) : Nat := if h : i < l.length then (stepR agent d l[i]).getD 0 else 0
/-- One entry's number told anew. -/
def setN (G : Nat → Nat) (i v : Nat) : Nat → Nat := fun j => if j = i then v else G j
def nz (n : Nat) (G : Nat → Nat) : Nat := ((List.range n).filter fun j => decide (G j ≠ 0)).length
theorem nz_le (n : Nat) (G : Nat → Nat) : nz n G ≤ n := by
  have := List.length_filter_le (fun j => decide (G j ≠ 0)) (List.range n)
  rw [List.length_range] at this
  exact this
theorem nz_succ (n : Nat) (G : Nat → Nat) : nz (n + 1) G = nz n G + if G n ≠ 0 then 1 else 0 := by
  unfold nz
  rw [List.range_succ, List.filter_append, List.length_append]
  by_cases h : G n = 0 <;> simp [h]
theorem nz_set (G : Nat → Nat) (i v : Nat) (hv : v ≠ 0) : ∀ n, nz n G ≤ nz n (setN G i v)
  | 0 => Nat.le_refl _
  | n + 1 => by
    have := nz_set G i v hv n
    rw [nz_succ, nz_succ]
    by_cases c : n = i
    · have : setN G i v n = v := if_pos c
      rw [this, if_pos hv]
      split <;> omega
    · have : setN G i v n = G n := if_neg c
      rw [this]
      omega
theorem nz_new (G : Nat → Nat) (i v : Nat) (hv : v ≠ 0) (h0 : G i = 0) : ∀ n, i < n → nz n G + 1 ≤ nz n (setN G i v)
  | 0, h => by omega
  | n + 1, h => by
    rw [nz_succ, nz_succ]
    by_cases c : n = i
    · have h1 : setN G i v n = v := if_pos c
      have h2 := nz_set G i v hv n
      rw [h1, if_pos hv, c, h0, if_neg (by omega)]
      rw [c] at h2
      omega
    · have h1 := nz_new G i v hv h0 n (by omega)
      have : setN G i v n = G n := if_neg c
      rw [this]
      omega

/-- What lies while the document reckons: all that is told is no less than it is. -/
structure Low (agent : ByteArray) (d : ByteArray → Option Nat) (l : List En) (G : Nat → Nat) : Prop where
  low : ∀ i, i < l.length → G i ≠ 0 → farN agent d l i ≠ 0 ∧ farN agent d l i ≤ G i
  bnd : ∀ i, i < l.length → G i ≤ nz l.length G
/-- It is told well. -/
def Well (agent : ByteArray) (d : ByteArray → Option Nat) (l : List En) (G : Nat → Nat) (i : Nat) : Prop := G i ≠ 0 ∧ G i ≤ farN agent d l i

section
variable {agent : ByteArray} {d : ByteArray → Option Nat} {l : List En} {G : Nat → Nat}
theorem farN_next (h : Done agent l d) (i k : Nat) (hi : i < l.length) (hk : k < l.length) (hp : l[k].path = l[i].parent) (hf : farN agent d l k ≠ 0) : farN agent d l i ≠ 0 ∧ farN agent d l i ≤ farN agent d l k + 1 := by
  unfold farN at hf ⊢
  rw [dif_pos hk] at hf ⊢
  rw [dif_pos hi]
  cases hs : stepR agent d l[k] with
  | none => rw [hs] at hf; exact absurd rfl hf
  | some n =>
    obtain ⟨m, hm, hmn⟩ := h.shut _ (List.getElem_mem hk) n hs
    rw [hp] at hm
    unfold stepR
    by_cases c : l[i].parent = agent
    · rw [if_pos c]
      exact ⟨by simp, by simp⟩
    · rw [if_neg c, hm]
      exact ⟨by simp, by simpa using hmn⟩
theorem relax_low (h : Done agent l d) (hl : Low agent d l G) (i k : Nat) (hi : i < l.length) (hk : k < l.length) (hg : 0 < G k) (hp : l[k].path = l[i].parent) (hc : G i = 0 ∨ G k + 1 < G i) : Low agent d l (setN G i (G k + 1)) := by
  refine ⟨fun j hj hne => ?_, fun j hj => ?_⟩
  · by_cases c : j = i
    · subst c
      have e : setN G j (G k + 1) j = G k + 1 := if_pos rfl
      rw [e]
      have h1 := hl.low k hk (by omega)
      have h2 := farN_next h j k hj hk hp h1.1
      exact ⟨h2.1, by omega⟩
    · have e : setN G i (G k + 1) j = G j := if_neg c
      rw [e] at hne ⊢
      exact hl.low j hj hne
  · have hb := hl.bnd j hj
    have hs := nz_set G i (G k + 1) (by omega) l.length
    by_cases c : j = i
    · subst c
      have e : setN G j (G k + 1) j = G k + 1 := if_pos rfl
      rw [e]
      have hbk := hl.bnd k hk
      rcases hc with hc | hc
      · have := nz_new G j (G k + 1) (by omega) hc l.length hi
        omega
      · omega
    · have e : setN G i (G k + 1) j = G j := if_neg c
      rw [e]
      omega
theorem relax_well (i k j : Nat) (hc : G i = 0 ∨ G k + 1 < G i) (hw : Well agent d l G j) : Well agent d l (setN G i (G k + 1)) j := by
  unfold Well setN at *
  by_cases c : j = i
  · rw [if_pos c]
    subst c
    omega
  · rw [if_neg c]
    exact hw
theorem relax_hit (i k : Nat) (hw : Well agent d l G k) (hf : farN agent d l i = farN agent d l k + 1) : Well agent d l (setN G i (G k + 1)) i := by
  unfold Well setN at *
  rw [if_pos rfl, hf]
  omega
theorem keep_hit (i k : Nat) (hw : Well agent d l G k) (hc : ¬ (G i = 0 ∨ G k + 1 < G i)) (hf : farN agent d l i = farN agent d l k + 1) : Well agent d l G i := by
  unfold Well at *
  omega

/-- The first ones. -/
def startG (agent : ByteArray) (l : List En) (i : Nat) : Nat := if h : i < l.length then (if l[i].parent = agent then 1 else 0) else 0
theorem start_low (h : Done agent l d) : Low agent d l (startG agent l) := by
  refine ⟨fun i hi hne => ?_, fun i hi => ?_⟩
  · unfold startG at hne ⊢
    unfold farN stepR
    rw [dif_pos hi] at hne ⊢
    rw [dif_pos hi]
    by_cases c : l[i].parent = agent
    · rw [if_pos c, if_pos c]; exact ⟨by simp, by simp⟩
    · rw [if_neg c] at hne; exact absurd rfl hne
  · by_cases c : startG agent l i = 0
    · omega
    · have h1 : startG agent l i = 1 := by unfold startG at c ⊢; rw [dif_pos hi] at c ⊢; split <;> simp_all
      have h2 := nz_new (fun j => if j = i then 0 else startG agent l j) i 1 (by decide) (if_pos rfl) l.length hi
      have h3 : setN (fun j => if j = i then 0 else startG agent l j) i 1 = startG agent l := by
        funext j
        unfold setN
        by_cases e : j = i
        · rw [if_pos e, e, h1]
        · rw [if_neg e]; exact if_neg e
      rw [h3] at h2
      omega
theorem start_well (h : Done agent l d) (i : Nat) (hi : i < l.length) (hf : farN agent d l i ≠ 0) (hf1 : farN agent d l i ≤ 1) : Well agent d l (startG agent l) i := by
  have e : l[i].parent = agent := by
    unfold farN stepR at hf hf1
    rw [dif_pos hi] at hf hf1
    by_cases c : l[i].parent = agent
    · exact c
    · rw [if_neg c] at hf hf1
      cases hd : d l[i].parent with
      | none => rw [hd] at hf; exact absurd rfl hf
      | some n =>
        have := h.way.pos _ _ hd
        rw [hd] at hf1
        simp at hf1
        omega
  unfold Well startG
  rw [dif_pos hi, if_pos e]
  omega
/-- A way has a first step. -/
theorem farN_prev (h : Done agent l d) (i r : Nat) (hi : i < l.length) (hr : 1 ≤ r) (hf : farN agent d l i = r + 1) : ∃ k, ∃ hk : k < l.length, l[k].path = l[i].parent ∧ farN agent d l k = r := by
  unfold farN stepR at hf
  rw [dif_pos hi] at hf
  by_cases c : l[i].parent = agent
  · rw [if_pos c] at hf; simp at hf; omega
  · rw [if_neg c] at hf
    cases hd : d l[i].parent with
    | none => rw [hd] at hf; simp at hf
    | some n =>
      rw [hd] at hf
      have hn : n = r := by simpa using hf
      subst hn
      obtain ⟨e, he, hep, hs⟩ := h.sup _ _ hd
      obtain ⟨k, hk, rfl⟩ := List.getElem_of_mem he
      exact ⟨k, hk, hep, by unfold farN; rw [dif_pos hk, hs]; rfl⟩
theorem farN_le (h : Done agent l d) (i : Nat) : farN agent d l i ≤ l.length + 1 := by
  unfold farN
  by_cases hi : i < l.length
  · rw [dif_pos hi]
    cases hs : stepR agent d l[i] with
    | none => simp
    | some n => have := (h.le _ n hs (List.getElem_mem hi)).2; simpa using this
  · rw [dif_neg hi]; omega
/-- All that are r or nearer are told well; and those one further, that lie ahead of i. -/
def Upto (agent : ByteArray) (d : ByteArray → Option Nat) (l : List En) (G : Nat → Nat) (r i : Nat) : Prop :=
  ∀ j, j < l.length → farN agent d l j ≠ 0 → farN agent d l j ≤ r ∨ (farN agent d l j = r + 1 ∧ j < i) → Well agent d l G j
theorem upto_start (h : Done agent l d) : Upto agent d l (startG agent l) 1 0 := fun j hj hf hor => by
  rcases hor with hor | hor
  · exact start_well h j hj hf hor
  · omega
theorem upto_round (r : Nat) (h : Upto agent d l G r l.length) : Upto agent d l G (r + 1) 0 := fun j hj hf hor => by
  rcases hor with hor | hor
  · exact h j hj hf (by omega)
  · omega
theorem upto_end (h : Done agent l d) (hl : Low agent d l G) (hu : Upto agent d l G (l.length + 1) 0) (i : Nat) (hi : i < l.length) : G i = farN agent d l i := by
  by_cases c : farN agent d l i = 0
  · by_cases g : G i = 0
    · rw [c, g]
    · exact absurd c (hl.low i hi g).1
  · have hw := hu i hi c (.inl (farN_le h i))
    have := hl.low i hi hw.1
    unfold Well at hw
    omega
/-- Entry i is told well, if one of the first k is its first step. -/
def Seen (agent : ByteArray) (d : ByteArray → Option Nat) (l : List En) (G : Nat → Nat) (r i k : Nat) : Prop :=
  ∀ hi : i < l.length, farN agent d l i = r + 1 → (∃ k', ∃ hk : k' < l.length, k' < k ∧ l[k'].path = l[i].parent ∧ farN agent d l k' = r) → Well agent d l G i
theorem seen_all (h : Done agent l d) (r i : Nat) (hi : i < l.length) (hr : 1 ≤ r) (hu : Upto agent d l G r i) (hs : Seen agent d l G r i l.length) : Upto agent d l G r (i + 1) := fun j hj hf hor => by
  by_cases c : j = i
  · subst c
    rcases hor with hor | hor
    · exact hu j hj hf (.inl hor)
    · obtain ⟨k, hk, hp, hfk⟩ := farN_prev h j r hj hr hor.1
      exact hs hj hor.1 ⟨k, hk, hk, hp, hfk⟩
  · exact hu j hj hf (by omega)
/-- One look at the pair (i, k), that turns what is told. -/
theorem look_yes (h : Done agent l d) (hl : Low agent d l G) (r i k : Nat) (hi : i < l.length) (hk : k < l.length) (hr : 1 ≤ r) (hu : Upto agent d l G r i) (hs : Seen agent d l G r i k) (hg : 0 < G k) (hp : l[k].path = l[i].parent) (hc : G i = 0 ∨ G k + 1 < G i) :
    Low agent d l (setN G i (G k + 1)) ∧ Upto agent d l (setN G i (G k + 1)) r i ∧ Seen agent d l (setN G i (G k + 1)) r i (k + 1) := by
  refine ⟨relax_low h hl i k hi hk hg hp hc, fun j hj hf hor => relax_well i k j hc (hu j hj hf hor), fun hi' hf hex => ?_⟩
  obtain ⟨k', hk', hlt, hp', hfk⟩ := hex
  by_cases c : k' = k
  · subst c
    exact relax_hit i k' (hu k' hk' (by omega) (.inl (by omega))) (by rw [hf, hfk])
  · exact relax_well i k i hc (hs hi' hf ⟨k', hk', by omega, hp', hfk⟩)
/-- .. that leaves it. -/
theorem look_no (r i k : Nat) (hk : k < l.length) (hr : 1 ≤ r) (hu : Upto agent d l G r i) (hs : Seen agent d l G r i k) (hi : i < l.length) (hn : ¬ (0 < G k ∧ l[k].path = l[i].parent ∧ (G i = 0 ∨ G k + 1 < G i))) : Seen agent d l G r i (k + 1) := fun hi' hf hex => by
  obtain ⟨k', hk', hlt, hp', hfk⟩ := hex
  by_cases c : k' = k
  · subst c
    have hw := hu k' hk' (by omega) (.inl (by omega))
    refine keep_hit i k' hw (fun hc => hn ⟨by have := hw.1; omega, hp', hc⟩) (by rw [hf, hfk])
  · exact hs hi' hf ⟨k', hk', by omega, hp', hfk⟩
theorem seen_none (r i : Nat) : Seen agent d l G r i 0 := fun _ _ ⟨_, _, h, _⟩ => absurd h (Nat.not_lt_zero _)
end
end Go.Proofs.Ytcbfmpnkadkpdaa
