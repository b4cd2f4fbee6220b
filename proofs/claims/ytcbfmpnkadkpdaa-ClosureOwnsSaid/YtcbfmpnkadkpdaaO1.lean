/- Entries of one's own, turned in place. -/
import Derived.Test.YtcbfmpnkadkpdaaL3
import Derived.Laws.OwnMore
set_option linter.unusedVariables false
namespace Go.Proofs.Ytcbfmpnkadkpdaa
open Go.RowKit

theorem own_free {w : World} {base n g : Nat} {e : TypeId} {s c : Nat} {xs : List Value} (h : w.ownsRow base e s (.slice (some ⟨g, 0, none⟩) n c) n xs) (j : Nat) : w.frozen? ⟨g, j, none⟩ = false := by
  rcases h.2 with ⟨hv, _⟩ | ⟨g', cap, cur, hv, _, hh, _⟩
  · simp at hv
  · injection hv with hv
    injection hv with hv
    injection hv with hv
    subst hv
    exact Blk.frozen (t := e) (cs := cur) hh j

theorem set_core {M : List En} {i : Nat} (hi : i < M.length) (y : En) {P : En → Prop} (h : ∀ x ∈ M, P x) (hy : P y) : ∀ x ∈ M.set i y, P x := fun x hx => by
  rcases List.mem_or_eq_of_mem_set hx with h1 | h1
  · exact h x h1
  · rw [h1]; exact hy
def Apart (x y : En) : Prop := ∀ k, (Value.slice x.A x.sel.length x.c).ownBlock = some k → (Value.slice y.A y.sel.length y.c).ownBlock ≠ some k
theorem apart_set {M : List En} (h : M.Pairwise Apart) (i : Nat) (hi : i < M.length) (y : En) (hA : y.A = M[i].A) (hc : y.c = M[i].c) (hl : y.sel.length = M[i].sel.length) : (M.set i y).Pairwise Apart := by
  rw [List.pairwise_iff_getElem] at h ⊢
  intro p q hp hq hpq
  rw [List.length_set] at hp hq
  have key : ∀ t (ht : t < M.length) (ht' : t < (M.set i y).length), Value.slice (M.set i y)[t].A (M.set i y)[t].sel.length (M.set i y)[t].c = Value.slice M[t].A M[t].sel.length M[t].c := by
    intro t ht ht'
    rw [List.getElem_set]
    by_cases e : i = t
    · subst e
      rw [if_pos rfl, hA, hc, hl]
    · rw [if_neg e]
  intro k hk
  rw [key p hp] at hk
  rw [key q hq]
  exact h p q hp hq hpq k hk
theorem ens_set0 (M : List En) (i : Nat) (hi : i < M.length) (m : Int) : (ens M).set (i * 5) (.int .i64 m) = ens (M.set i { M[i] with n := m }) := by
  rw [← ens_set M i _ hi]
  have h1 := ens_at M i hi
  apply List.ext_getElem?
  intro j
  have hlen := ens_len M
  rw [List.getElem?_set]
  have hi5 : i * 5 + 5 ≤ M.length * 5 := by omega
  have lt : ((ens M).take (i * 5)).length = i * 5 := by rw [List.length_take]; omega
  by_cases c : i * 5 = j
  · subst c
    rw [if_pos rfl, if_pos (by omega), List.append_assoc, List.getElem?_append_right (by omega), lt, Nat.sub_self]
    rfl
  · rw [if_neg c]
    by_cases c1 : j < i * 5
    · rw [List.append_assoc, List.getElem?_append_left (by omega), List.getElem?_take, if_pos c1]
    · by_cases c2 : j < i * 5 + 5
      · rw [List.append_assoc, List.getElem?_append_right (by omega), lt, List.getElem?_append_left (by rw [cells_len]; omega)]
        have h2 := h1 (j - i * 5) (by omega)
        rw [show i * 5 + (j - i * 5) = j by omega] at h2
        rw [h2]
        obtain ⟨r, hr⟩ : ∃ r, j - i * 5 = r + 1 := ⟨j - i * 5 - 1, by omega⟩
        rw [hr]
        rfl
      · rw [List.getElem?_append_right (by rw [List.length_append, lt, cells_len]; omega), List.length_append, lt, cells_len, List.getElem?_drop]
        rw [show i * 5 + 5 + (j - (i * 5 + 5)) = j by omega]
theorem ens_setS (M : List En) (i : Nat) (hi : i < M.length) (y : En) (hc : y.cells = M[i].cells) : ens (M.set i y) = ens M := by
  rw [← ens_set M i y hi, hc, ens_set M i M[i] hi, List.set_getElem_self]

theorem OwnEns.setN {w : World} {base g c : Nat} {M : List En} (h : OwnEns w base (some ⟨g, 0, none⟩) c M) (i : Nat) (hi : i < M.length) (m : Int) : OwnEns (w.setCell ⟨g, i * 5, none⟩ (.int .i64 m)) base (some ⟨g, 0, none⟩) c (M.set i { M[i] with n := m }) := by
  have ho : Only (fun k => k = g) w (w.setCell ⟨g, i * 5, none⟩ (.int .i64 m)) := Only.setCell (F := fun k => k = g) (p := ⟨g, i * 5, none⟩) (Only.refl _ w) (.inl rfl) _
  have hs : ∀ x ∈ M, SelOwn (w.setCell ⟨g, i * 5, none⟩ (.int .i64 m)) base x := fun x hx => own_only (h.sel x hx) ho fun k hk e => by
    subst e
    exact own_types h.row (h.sel x hx) (by decide) k rfl hk
  refine ⟨?_, set_core hi _ hs (hs M[i] (List.getElem_mem hi)), apart_set h.apart i hi _ rfl rfl rfl⟩
  have h1 := (h.row.stored (i * 5) (.int .i64 m)).1
  rw [ens_set0 M i hi m] at h1
  rw [List.length_set]
  exact h1

theorem strs_set (ss : List ByteArray) (k : Nat) (s : ByteArray) : (strs ss).set k (.string s) = strs (ss.set k s) := by
  simp [strs, List.map_set]
theorem OwnEns.setS {w : World} {base c : Nat} {A : Option Addr} {M : List En} (h : OwnEns w base A c M) (i : Nat) (hi : i < M.length) (b : Nat) (hb : M[i].A = some ⟨b, 0, none⟩) (k : Nat) (s : ByteArray) : OwnEns (w.setCell ⟨b, k, none⟩ (.string s)) base A c (M.set i { M[i] with sel := M[i].sel.set k s }) := by
  have ho : Only (fun k => k = b) w (w.setCell ⟨b, k, none⟩ (.string s)) := Only.setCell (F := fun k => k = b) (p := ⟨b, k, none⟩) (Only.refl _ w) (.inl rfl) _
  have hsi := h.sel _ (List.getElem_mem hi)
  have hib : (Value.slice M[i].A M[i].sel.length M[i].c).ownBlock = some b := by rw [hb]; rfl
  have hap := h.apart
  rw [List.pairwise_iff_getElem] at hap
  have hnew : SelOwn (w.setCell ⟨b, k, none⟩ (.string s)) base { M[i] with sel := M[i].sel.set k s } := by
    unfold SelOwn at hsi ⊢
    rw [hb] at hsi
    have h1 := (hsi.stored k (.string s)).1
    rw [strs_set] at h1
    show World.ownsRow _ _ _ _ (.slice M[i].A (M[i].sel.set k s).length M[i].c) (M[i].sel.set k s).length _
    rw [hb, List.length_set]
    exact h1
  refine ⟨?_, fun x hx => ?_, apart_set h.apart i hi _ rfl rfl (by simp)⟩
  · rw [List.length_set, ens_setS M i hi _ (by simp [En.cells])]
    exact own_only h.row ho fun k' hk' e => by
      subst e
      exact own_types h.row hsi (by decide) _ hk' hib
  · obtain ⟨t, ht, rfl⟩ := List.getElem_of_mem hx
    have ht' : t < M.length := by rwa [List.length_set] at ht
    by_cases e : i = t
    · subst e
      rw [List.getElem_set_self]
      exact hnew
    · rw [List.getElem_set_ne e]
      refine own_only (h.sel _ (List.getElem_mem ht')) ho fun k' hk' e2 => ?_
      subst e2
      by_cases lt : i < t
      · exact hap i t hi ht' lt k' hib hk'
      · exact hap t i ht' hi (by omega) k' hk' hib

/-- What lies while they are turned: T: how many texts were. -/
structure OwI (w5 : World) (B S : Nat) (A : Option Addr) (c n : Nat) (T : Nat) (M : List En) (w : World) : Prop where
  own : OwnEns w B A c M
  len : M.length = n
  row : ∀ k, (Value.slice A M.length c).ownBlock = some k → k < S
  sels : ∀ x ∈ M, ∀ k, (Value.slice x.A x.sel.length x.c).ownBlock = some k → k < S
  many : ∀ x ∈ M, x.sel.length ≤ 8796093022208
  sz : ∀ x ∈ M, ∀ s ∈ x.sel, s.size ≤ 140737488355328 + T
  only : Only (fun k => B ≤ k ∧ k < S) w5 w
theorem OwI.more {w5 : World} {B S : Nat} {A : Option Addr} {c n T T' : Nat} {M : List En} {w : World} (h : OwI w5 B S A c n T M w) (hT : T ≤ T') : OwI w5 B S A c n T' M w :=
  ⟨h.own, h.len, h.row, h.sels, h.many, fun x hx s hs => Nat.le_trans (h.sz x hx s hs) (by omega), h.only⟩
theorem OwI.drewN {w5 : World} {B S : Nat} {A : Option Addr} {c n T : Nat} {M : List En} {w : World} (h : OwI w5 B S A c n T M w) (j : Nat) : OwI w5 B S A c n T M (w.drewN j) :=
  ⟨h.own.only (F := fun _ => False) ((Only.refl _ w).drewN j) (fun _ _ _ h => h), h.len, h.row, h.sels, h.many, h.sz, h.only.drewN j⟩
theorem OwI.setN {w5 : World} {B S g : Nat} {c n T : Nat} {M : List En} {w : World} (h : OwI w5 B S (some ⟨g, 0, none⟩) c n T M w) (i : Nat) (hi : i < M.length) (m : Int) : OwI w5 B S (some ⟨g, 0, none⟩) c n T (M.set i { M[i] with n := m }) (w.setCell ⟨g, i * 5, none⟩ (.int .i64 m)) := by
  have hm := List.getElem_mem hi
  exact ⟨h.own.setN i hi m, by rw [List.length_set]; exact h.len, fun k hk => h.row k hk, set_core hi _ h.sels (h.sels M[i] hm), set_core hi _ h.many (h.many M[i] hm), set_core hi _ h.sz (h.sz M[i] hm), h.only.setCell (p := ⟨g, i * 5, none⟩) (.inl ⟨(own_lt h.own.row rfl).1, h.row g rfl⟩) _⟩
theorem OwI.setS {w5 : World} {B S : Nat} {A : Option Addr} {c n T : Nat} {M : List En} {w : World} (h : OwI w5 B S A c n T M w) (i : Nat) (hi : i < M.length) (b : Nat) (hb : M[i].A = some ⟨b, 0, none⟩) (k : Nat) (s : ByteArray) (hs : s.size ≤ 140737488355328 + (T + 1)) : OwI w5 B S A c n (T + 1) (M.set i { M[i] with sel := M[i].sel.set k s }) (w.setCell ⟨b, k, none⟩ (.string s)) := by
  have hm := List.getElem_mem hi
  have hib : (Value.slice M[i].A M[i].sel.length M[i].c).ownBlock = some b := by rw [hb]; rfl
  have h' := h.more (Nat.le_add_right T 1)
  refine ⟨h.own.setS i hi b hb k s, by rw [List.length_set]; exact h.len, fun j hj => h.row j (by rwa [List.length_set] at hj), set_core hi _ h.sels (fun j hj => h.sels M[i] hm j (by simpa using hj)), set_core hi _ h.many (by simpa using h.many M[i] hm), set_core hi _ h'.sz (fun t ht => ?_), h.only.setCell (p := ⟨b, k, none⟩) (.inl ⟨(own_lt (h.own.sel _ hm) hib).1, h.sels _ hm b hib⟩) _⟩
  rcases List.mem_or_eq_of_mem_set ht with h1 | h1
  · exact h'.sz _ hm t h1
  · rw [h1]; exact hs
end Go.Proofs.Ytcbfmpnkadkpdaa
