/- Plain laws of what a cache keeps. -/
import Derived.Test.YtffmhejkhimkcaaC6
set_option linter.unusedVariables false
namespace Go.Proofs.Ytffmhejkhimkcaa

/-- No two are of one mark. -/
def Uniq (l : List Kt) : Prop := ∀ i j (hi : i < l.length) (hj : j < l.length), l[i].entry = l[j].entry → l[i].aud = l[j].aud → i = j
theorem isM_iff (e : Int) (a : ByteArray) (x : Kt) : isM e a x = true ↔ x.entry = e ∧ x.aud = a := by
  unfold isM
  simp
theorem isM_not (e : Int) (a : ByteArray) (x : Kt) : isM e a x = false ↔ ¬ (x.entry = e ∧ x.aud = a) := by
  rw [← isM_iff]
  simp
/-- One mark. -/
def Mk (x y : Kt) : Prop := x.entry = y.entry ∧ x.aud = y.aud
def Ones (l : List Kt) : Prop := l.Pairwise fun x y => ¬ Mk x y
theorem Ones.uniq {l : List Kt} (h : Ones l) : Uniq l := by
  intro i j hi hj h1 h2
  unfold Ones at h
  rw [List.pairwise_iff_getElem] at h
  rcases Nat.lt_trichotomy i j with c | c | c
  · exact absurd ⟨h1, h2⟩ (h i j hi hj c)
  · exact c
  · exact absurd ⟨h1.symm, h2.symm⟩ (h j i hj hi c)

/-- A cache's list, whose uses are u. -/
structure WF (l : List Kt) (u : Int) : Prop where
  ones : Ones l
  few : l.length ≤ 6
  used : ∀ x ∈ l, 0 ≤ x.used ∧ x.used ≤ u

theorem best_mem : ∀ (l : List Kt) (m : Kt), best l m = m ∨ best l m ∈ l
  | [], m => .inl rfl
  | x :: r, m => by
    show best r (if x.used < m.used then x else m) = m ∨ best r (if x.used < m.used then x else m) ∈ x :: r
    by_cases c : x.used < m.used
    · rw [if_pos c]
      rcases best_mem r x with h | h
      · rw [h]; exact .inr (List.mem_cons_self ..)
      · exact .inr (List.mem_cons_of_mem _ h)
    · rw [if_neg c]
      rcases best_mem r m with h | h
      · exact .inl h
      · exact .inr (List.mem_cons_of_mem _ h)
theorem best_le : ∀ (l : List Kt) (m : Kt), (best l m).used ≤ m.used ∧ ∀ x ∈ l, (best l m).used ≤ x.used
  | [], m => ⟨Int.le_refl _, fun _ h => by cases h⟩
  | y :: r, m => by
    show (best r (if y.used < m.used then y else m)).used ≤ m.used ∧ ∀ x ∈ y :: r, (best r (if y.used < m.used then y else m)).used ≤ x.used
    by_cases c : y.used < m.used
    · rw [if_pos c]
      have ih := best_le r y
      refine ⟨by omega, fun x hx => ?_⟩
      rcases List.mem_cons.1 hx with rfl | hx
      · exact ih.1
      · exact ih.2 x hx
    · rw [if_neg c]
      have ih := best_le r m
      refine ⟨ih.1, fun x hx => ?_⟩
      rcases List.mem_cons.1 hx with rfl | hx
      · omega
      · exact ih.2 x hx
theorem minK_mem (l : List Kt) (h : l ≠ []) : minK l ∈ l := by
  match l, h with
  | x :: r, _ =>
    rcases best_mem r x with h | h
    · show best r x ∈ _
      rw [h]; exact List.mem_cons_self ..
    · exact List.mem_cons_of_mem _ h
theorem minK_le (l : List Kt) (x : Kt) (hx : x ∈ l) : (minK l).used ≤ x.used := by
  match l, hx with
  | y :: r, hx =>
    have := best_le r y
    rcases List.mem_cons.1 hx with rfl | hx
    · exact this.1
    · exact this.2 x hx
theorem kept_sub (p : Kt → Bool) (l : List Kt) : (keptOf p l).Sublist l := List.filter_sublist
theorem mem_kept (p : Kt → Bool) (l : List Kt) (x : Kt) : x ∈ keptOf p l ↔ x ∈ l ∧ p x = false := by
  unfold keptOf
  rw [List.mem_filter]
  simp
theorem kept_append (p : Kt → Bool) (l m : List Kt) : keptOf p (l ++ m) = keptOf p l ++ keptOf p m := List.filter_append ..
theorem kept_lt (p : Kt → Bool) (l : List Kt) (x : Kt) (hx : x ∈ l) (hp : p x = true) : (keptOf p l).length < l.length := by
  unfold keptOf
  rw [List.length_filter_lt_length_iff_exists]
  exact ⟨x, hx, by simp [hp]⟩

/-- Put, told plainly: some of those that were, then the new one. -/
theorem putL_shape (l : List Kt) (u : Int) (k : Kt) (h : WF l u) : ∃ B, putL l u k = B ++ [{ k with used := u + 1 }] ∧ B.length ≤ 5 ∧ B.Sublist l ∧ (∀ x ∈ B, isM k.entry k.aud x = false) ∧
    ∀ y ∈ l, isM k.entry k.aud y = false → (∃ x ∈ l, x.used < y.used) ∨ l.length ≤ 5 → y ∈ B := by
  obtain ⟨A, hA⟩ : ∃ A, A = keptOf (isM k.entry k.aud) l := ⟨_, rfl⟩
  obtain ⟨k', hk'⟩ : ∃ k' : Kt, k' = { k with used := u + 1 } := ⟨_, rfl⟩
  have e : putL l u k = if (A ++ [k']).length ≤ 6 then A ++ [k'] else keptOf (isM (minK (A ++ [k'])).entry (minK (A ++ [k'])).aud) (A ++ [k']) := by
    rw [hA, hk']; rfl
  have hsub : A.Sublist l := by rw [hA]; exact kept_sub _ _
  have hmk : ∀ x ∈ A, isM k.entry k.aud x = false := fun x hx => by rw [hA] at hx; exact ((mem_kept _ _ _).1 hx).2
  have hmem : ∀ y ∈ l, isM k.entry k.aud y = false → y ∈ A := fun y hy hp => by rw [hA]; exact (mem_kept _ _ _).2 ⟨hy, hp⟩
  have hlen := hsub.length_le
  have h6 := h.few
  rw [e, ← hk']
  by_cases c : (A ++ [k']).length ≤ 6
  · rw [if_pos c]
    rw [List.length_append, List.length_singleton] at c
    exact ⟨A, rfl, by omega, hsub, hmk, fun y hy hp _ => hmem y hy hp⟩
  · rw [if_neg c]
    rw [List.length_append, List.length_singleton] at c
    obtain ⟨o, ho⟩ : ∃ o, o = minK (A ++ [k']) := ⟨_, rfl⟩
    rw [← ho]
    have ho1 : o ∈ A ++ [k'] := by rw [ho]; exact minK_mem _ (by simp)
    have hol : ∀ x ∈ A ++ [k'], o.used ≤ x.used := fun x hx => by rw [ho]; exact minK_le _ x hx
    have hku : k'.used = u + 1 := by rw [hk']
    have hA0 : A ≠ [] := by rintro e; rw [e] at c; simp at c
    have hoA : o ∈ A := by
      rcases List.mem_append.1 ho1 with x | x
      · exact x
      · rw [List.mem_singleton] at x
        obtain ⟨y, hy⟩ := List.exists_mem_of_ne_nil A hA0
        have h1 := hol y (List.mem_append_left _ hy)
        have h2 := (h.used y (hsub.subset hy)).2
        rw [x, hku] at h1
        omega
    have hpk : isM o.entry o.aud k' = false := by
      have := hmk o hoA
      rw [isM_not] at this ⊢
      rintro ⟨e1, e2⟩
      have f1 : k'.entry = k.entry := by rw [hk']
      have f2 : k'.aud = k.aud := by rw [hk']
      exact this ⟨e1.symm.trans f1, e2.symm.trans f2⟩
    have hkk : keptOf (isM o.entry o.aud) [k'] = [k'] := by simp [keptOf, hpk]
    refine ⟨keptOf (isM o.entry o.aud) A, by rw [kept_append, hkk], ?_, (kept_sub _ _).trans hsub, fun x hx => hmk x ((mem_kept _ _ _).1 hx).1, fun y hy hp hor => ?_⟩
    · have := kept_lt (isM o.entry o.aud) A o hoA ((isM_iff _ _ _).2 ⟨rfl, rfl⟩)
      omega
    · refine (mem_kept _ _ _).2 ⟨hmem y hy hp, ?_⟩
      rw [isM_not]
      rintro ⟨e1, e2⟩
      rcases hor with ⟨x, hx, hlt⟩ | h5
      · have hAl : A = l := hsub.eq_of_length (by omega)
        have hol' := hol x (List.mem_append_left _ (by rw [hAl]; exact hx))
        have : y = o := by
          obtain ⟨i, hi, rfl⟩ := List.getElem_of_mem hy
          obtain ⟨j, hj, rfl⟩ := List.getElem_of_mem (hsub.subset hoA)
          have := h.ones.uniq i j hi hj e1 e2
          subst this
          rfl
        rw [this] at hlt
        omega
      · omega

theorem putL_wf (l : List Kt) (u : Int) (k : Kt) (h : WF l u) (hu : 0 ≤ u) : WF (putL l u k) (u + 1) := by
  obtain ⟨B, e, h5, hsub, hmk, _⟩ := putL_shape l u k h
  rw [e]
  refine ⟨?_, by rw [List.length_append, List.length_singleton]; omega, fun x hx => ?_⟩
  · unfold Ones
    rw [List.pairwise_append]
    refine ⟨h.ones.sublist hsub, List.pairwise_singleton _ _, fun x hx y hy => ?_⟩
    rw [List.mem_singleton.1 hy]
    have := hmk x hx
    rw [isM_not] at this
    exact this
  · rcases List.mem_append.1 hx with hx | hx
    · have := h.used x (hsub.subset hx)
      omega
    · rw [List.mem_singleton.1 hx]
      show 0 ≤ u + 1 ∧ u + 1 ≤ u + 1
      omega
theorem wf_nil : WF [] 0 := ⟨List.Pairwise.nil, by decide, fun _ h => by cases h⟩

/-- One's use is told anew. -/
theorem wf_use (l : List Kt) (u : Int) (h : WF l u) (hu : 0 ≤ u) (k : Nat) (hk : k < l.length) : WF (l.set k { l[k] with used := u + 1 }) (u + 1) := by
  refine ⟨?_, by rw [List.length_set]; exact h.few, fun x hx => ?_⟩
  · unfold Ones
    rw [List.pairwise_iff_getElem]
    intro i j hi hj hij hm
    rw [List.length_set] at hi hj
    have hq := h.ones.uniq i j hi hj
    have key : ∀ t (ht : t < l.length), ((l.set k { l[k] with used := u + 1 })[t]'(by rw [List.length_set]; exact ht)).entry = l[t].entry := by
      intro t ht
      rw [List.getElem_set]
      by_cases c : k = t
      · subst c; simp
      · rw [if_neg c]
    have key2 : ∀ t (ht : t < l.length), ((l.set k { l[k] with used := u + 1 })[t]'(by rw [List.length_set]; exact ht)).aud = l[t].aud := by
      intro t ht
      rw [List.getElem_set]
      by_cases c : k = t
      · subst c; simp
      · rw [if_neg c]
    have e1 := hm.1
    have e2 := hm.2
    rw [key i hi, key j hj] at e1
    rw [key2 i hi, key2 j hj] at e2
    have := hq e1 e2
    omega
  · rcases List.mem_or_eq_of_mem_set hx with hx | hx
    · have := h.used x hx
      omega
    · rw [hx]
      show 0 ≤ u + 1 ∧ u + 1 ≤ u + 1
      omega
end Go.Proofs.Ytffmhejkhimkcaa
