/- Words for memory; entries, in rows. -/
import Derived.Test.YtcbfmpnkadkpdaaM2
import Derived.WalkKit
import Derived.WalkSpells
import Derived.WalkLawsBesides
import Derived.Lib.Hide
import Derived.Deep.AppendLies
import Derived.Deep.RegionLaw
import Derived.Deep.Draws
import Derived.Deep.QuietTactic
import Derived.BigQuiet
import Derived.Deep.Upon
import Derived.Deep.MidRow
import Derived.Deep.OwnRows
import Derived.Deep.CutRange
import Derived.Deep.CutBlock
import Derived.Deep.RegionWith
import Derived.Deep.RegionHeld3
import Derived.StillTailTactics
import Derived.Shelf.Abstract
set_option linter.unusedVariables false
namespace Go.Proofs.Ytcbfmpnkadkpdaa
open Go.RowKit

/-- Of the blocks that were there, only those of F may have turned. -/
structure Only (F : Nat → Prop) (w w' : World) : Prop where
  os : w'.os = w.os
  tape : w'.tape = w.tape
  output : w'.output = w.output
  size : w.heap.size ≤ w'.heap.size
  block : ∀ k, k < w.heap.size → ¬ F k → w'.heap[k]? = w.heap[k]?

section
variable {F G : Nat → Prop} {a w w' : World}
theorem Only.refl (F : Nat → Prop) (w : World) : Only F w w := ⟨rfl, rfl, rfl, Nat.le_refl _, fun _ _ _ => rfl⟩
theorem Only.trans {b c : World} (h : Only F a b) (k : Only F b c) : Only F a c :=
  ⟨k.os.trans h.os, k.tape.trans h.tape, k.output.trans h.output, Nat.le_trans h.size k.size, fun i hi hf => (k.block i (Nat.lt_of_lt_of_le hi h.size) hf).trans (h.block i hi hf)⟩
theorem Only.mono (h : Only F a w) (hf : ∀ k, k < a.heap.size → F k → G k) : Only G a w := ⟨h.os, h.tape, h.output, h.size, fun i hi hg => h.block i hi fun x => hg (hf i hi x)⟩
theorem Only.drew (h : Only F a w) : Only F a w.drew := ⟨h.os, h.tape, h.output, h.size, h.block⟩
theorem Only.drewN (h : Only F a w) (n : Nat) : Only F a (w.drewN n) := ⟨h.os, h.tape, h.output, h.size, h.block⟩
theorem Only.alloc (h : Only F a w) (o : Obj) : Only F a (w.alloc o) :=
  h.trans ⟨rfl, rfl, rfl, by simp, fun k hk _ => Below.heap_alloc _ _ _ hk⟩
theorem Only.setCell (h : Only F a w) {p : Addr} (hp : F p.block ∨ a.heap.size ≤ p.block) (u : Value) : Only F a (w.setCell p u) :=
  ⟨h.os, h.tape, h.output, by simpa [World.setCell] using h.size, fun k hk hf => (Below.heap_setCell _ _ _ _ (by
    rintro rfl
    rcases hp with hp | hp
    · exact hf hp
    · omega)).trans (h.block k hk hf)⟩
theorem Only.grown (h : Only F a w) {row : Option Nat} (hg : w.grownBy w' row) (hr : ∀ k, row = some k → F k ∨ a.heap.size ≤ k) : Only F a w' :=
  ⟨hg.os.trans h.os, hg.tape.trans h.tape, hg.output.trans h.output, Nat.le_trans h.size hg.size, fun k hk hf => (hg.block k (Nat.lt_of_lt_of_le hk h.size) (fun e => by
    rcases hr k e.symm with hp | hp
    · exact hf hp
    · omega)).trans (h.block k hk hf)⟩
theorem Only.then_ {b c : World} (h : Only F a b) (k : Only G b c) (hg : ∀ i, G i → F i ∨ a.heap.size ≤ i) : Only F a c :=
  ⟨k.os.trans h.os, k.tape.trans h.tape, k.output.trans h.output, Nat.le_trans h.size k.size, fun i hi hf => (k.block i (Nat.lt_of_lt_of_le hi h.size) (fun x => by
    rcases hg i x with y | y
    · exact hf y
    · omega)).trans (h.block i hi hf)⟩
theorem Only.below {B : Nat} (h : Only F a w) (hB : B ≤ a.heap.size) (hf : ∀ k, k < B → ¬ F k) : Below B a w := ⟨h.os, h.tape, h.output, h.size, fun k hk => h.block k (by omega) (hf k hk)⟩
theorem Only.of_below (h : Below a.heap.size a w) : Only F a w := ⟨h.os, h.tape, h.output, h.size, fun k hk _ => h.block k hk⟩
theorem Only.cell (h : Only F a w) {p : Addr} {u : Value} (hc : a.cell? p = some u) (hf : ¬ F p.block) : w.cell? p = some u :=
  (World.cell?_of_block (h.block p.block (World.block_lt_of_cell? a p hc) hf)).trans hc
end

/-- Block g is just the cells cs of type t, none of them frozen. -/
def Blk (w : World) (g : Nat) (t : TypeId) (cs : Array Value) : Prop := w.heap[g]? = some (.cells cs t (0, 0))

section
variable {w w' : World} {g : Nat} {t : TypeId} {cs : Array Value}
theorem Blk.lt (h : Blk w g t cs) : g < w.heap.size := (Array.getElem?_eq_some_iff.1 h).1
theorem Blk.cell (h : Blk w g t cs) (i : Nat) : w.cell? ⟨g, i, none⟩ = cs[i]? := cell_of_row w g i cs t (0, 0) h
theorem Blk.frozen (h : Blk w g t cs) (i : Nat) : w.frozen? ⟨g, i, none⟩ = false := by
  unfold Blk at h
  simp [World.frozen?, h]
theorem Blk.new (w : World) (t : TypeId) (cs : Array Value) : Blk (w.alloc (.cells cs t)) w.heap.size t cs := heap_alloc_new w _
theorem Blk.alloc (h : Blk w g t cs) (o : Obj) : Blk (w.alloc o) g t cs := (Below.heap_alloc w o g h.lt).trans h
theorem Blk.set_ (h : Blk w g t cs) (i : Nat) (u : Value) : Blk (w.setCell ⟨g, i, none⟩ u) g t (cs.setIfInBounds i u) := by
  unfold Blk at h ⊢
  simp [World.setCell, Array.getElem?_modify, h]
theorem Blk.far (h : Blk w g t cs) {p : Addr} (hp : g ≠ p.block) (u : Value) : Blk (w.setCell p u) g t cs := (Below.heap_setCell w p u g hp).trans h
theorem Blk.only {F : Nat → Prop} (h : Blk w g t cs) (hb : Only F w w') (hg : ¬ F g) : Blk w' g t cs := (hb.block g h.lt hg).trans h
theorem Blk.grown {row : Option Nat} (h : Blk w g t cs) (hb : w.grownBy w' row) (hg : some g ≠ row) : Blk w' g t cs := (hb.block g h.lt hg).trans h
theorem Blk.ne_ {g' : Nat} {t' : TypeId} {cs' : Array Value} (h : Blk w g t cs) (h' : Blk w g' t' cs') (hne : t ≠ t') : g ≠ g' := by
  rintro rfl
  unfold Blk at h h'
  rw [h] at h'
  injection h' with h'
  injection h' with _ ht
  exact hne ht
theorem own_blk_ne {base : Nat} {e : TypeId} {size n : Nat} {v : Value} {xs : List Value} (h : w.ownsRow base e size v n xs) (hg : Blk w g t cs) (hne : e ≠ t) : v.ownBlock ≠ some g := by
  rcases h.2 with ⟨rfl, _⟩ | ⟨g', cap, cur, rfl, _, hh, _⟩
  · simp [Value.ownBlock]
  · intro he
    have : g' = g := by simpa [Value.ownBlock] using he
    subst this
    exact Blk.ne_ (t := e) hh hg hne rfl
theorem own_only {F : Nat → Prop} {base : Nat} {e : TypeId} {size n : Nat} {v : Value} {xs : List Value} (h : w.ownsRow base e size v n xs) (hb : Only F w w') (hf : ∀ k, v.ownBlock = some k → ¬ F k) : w'.ownsRow base e size v n xs := by
  refine ⟨h.1, ?_⟩
  rcases h.2 with hn | ⟨g, cap, cur, rfl, hg, hh, rest⟩
  · exact .inl hn
  · refine .inr ⟨g, cap, cur, rfl, hg, ?_, rest⟩
    rw [hb.block g (Array.getElem?_eq_some_iff.1 hh).1 (hf g rfl)]
    exact hh
end


theorem ret_int {k : IntKind} {a b : Int} (h : a = b) : Ending.returned (.int k a) = .returned (.int k b) := by rw [h]
theorem ret_bool {a b : Bool} (h : a = b) : Ending.returned (.bool a) = .returned (.bool b) := by rw [h]
theorem below_drewN {B : Nat} {a w : World} (h : Below B a w) (n : Nat) : Below B a (w.drewN n) := ⟨h.os, h.tape, h.output, h.size, h.block⟩

theorem toList_eq_iff (a b : ByteArray) : a.toList = b.toList ↔ a = b := by
  rw [ByteArray.toList_eq, ByteArray.toList_eq]
  obtain ⟨⟨x⟩⟩ := a
  obtain ⟨⟨y⟩⟩ := b
  simp


/-- An array with a stretch of its elements put in anew. -/
def splice (cs : Array Value) (o : Nat) (vs : List Value) : Array Value := (cs.toList.take o ++ vs ++ cs.toList.drop (o + vs.length)).toArray

theorem splice_size (cs : Array Value) (o : Nat) (vs : List Value) (h : o + vs.length ≤ cs.size) : (splice cs o vs).size = cs.size := by
  simp only [splice, List.size_toArray, List.length_append, List.length_take, List.length_drop, Array.length_toList]
  omega

theorem splice_nil (cs : Array Value) (o : Nat) : splice cs o [] = cs := by simp [splice]

theorem splice_cons (cs : Array Value) (o : Nat) (v : Value) (vs : List Value) (h : o + 1 + vs.length ≤ cs.size) : splice (cs.setIfInBounds o v) (o + 1) vs = splice cs o (v :: vs) := by
  obtain ⟨l⟩ := cs
  simp only [splice, List.setIfInBounds_toArray, List.length_cons]
  congr 1
  have hl : o < l.length := by simp at h; omega
  rw [List.take_succ_eq_append_getElem (by simpa using hl)]
  simp only [List.getElem_set_self, List.take_set_of_le (Nat.le_refl o), List.append_assoc, List.cons_append, List.nil_append]
  rw [List.drop_set_of_lt (by omega)]
  rw [show o + 1 + vs.length = o + (vs.length + 1) by omega]

theorem Blk.setCells {t : TypeId} {g : Nat} : ∀ (vs : List Value) (o : Nat) (w : World) (cs : Array Value), Blk w g t cs → o + vs.length ≤ cs.size → Blk (w.setCells g o vs) g t (splice cs o vs)
  | [], o, w, cs, h, _ => by rw [splice_nil]; exact h
  | v :: vs, o, w, cs, h, hl => by
    simp only [List.length_cons] at hl
    have := Blk.setCells vs (o + 1) _ _ (h.set_ o v) (by simp; omega)
    rw [splice_cons _ _ _ _ (by omega)] at this
    exact this

theorem Only.setCells {F : Nat → Prop} {a : World} {g : Nat} (hg : F g ∨ a.heap.size ≤ g) : ∀ (vs : List Value) (o : Nat) (w : World), Only F a w → Only F a (w.setCells g o vs)
  | [], _, _, h => h
  | v :: vs, o, _, h => Only.setCells hg vs (o + 1) _ (h.setCell (p := ⟨g, o, none⟩) hg v)



def En.cells (x : En) : List Value := [.int .i64 x.n, .string x.path, .string x.parent, .int .i64 x.ttl, .slice x.A x.sel.length x.c]
abbrev En.agg (x : En) : Value := .agg #[.int .i64 x.n, .string x.path, .string x.parent, .int .i64 x.ttl, .slice x.A x.sel.length x.c]
def ens (l : List En) : List Value := l.flatMap En.cells

theorem cells_len (x : En) : x.cells.length = 5 := rfl
theorem ens_len (l : List En) : (ens l).length = l.length * 5 := by
  induction l with
  | nil => rfl
  | cons p l ih => simp [ens, En.cells] at ih ⊢; omega
theorem ens_append (l m : List En) : ens (l ++ m) = ens l ++ ens m := by simp [ens]
theorem ens_one (p : En) : ens [p] = p.cells := by simp [ens]
theorem ens_cons (p : En) (l : List En) : ens (p :: l) = p.cells ++ ens l := by simp [ens]
theorem ens_at : ∀ (l : List En) (i : Nat) (h : i < l.length) (j : Nat), j < 5 → (ens l)[i * 5 + j]? = (l[i]).cells[j]?
  | [], i, h, _, _ => by simp at h
  | p :: l, 0, h, j, hj => by
    rw [ens_cons, List.getElem?_append_left (by rw [cells_len]; omega), Nat.zero_mul, Nat.zero_add]
    rfl
  | p :: l, i + 1, h, j, hj => by
    rw [ens_cons, List.getElem?_append_right (by rw [cells_len]; omega), cells_len, show (i + 1) * 5 + j - 5 = i * 5 + j by omega]
    exact ens_at l i (by simpa using h) j hj
theorem ens_one_cell (l : List En) : ∀ u ∈ ens l, u.oneCell' = true := by
  intro u hu
  simp only [ens, List.mem_flatMap] at hu
  obtain ⟨p, _, hp⟩ := hu
  simp only [En.cells, List.mem_cons, List.not_mem_nil, or_false] at hp
  rcases hp with rfl | rfl | rfl | rfl | rfl <;> rfl
theorem ens_take : ∀ (l : List En) (n : Nat), (ens l).take (n * 5) = ens (l.take n)
  | [], n => by simp [ens]
  | p :: l, 0 => by simp [ens]
  | p :: l, n + 1 => by
    rw [ens_cons, List.take_succ_cons, ens_cons, List.take_append, cells_len, List.take_of_length_le (by rw [cells_len]; omega), show (n + 1) * 5 - 5 = n * 5 by omega, ens_take l n]
theorem ens_set : ∀ (l : List En) (i : Nat) (x : En), i < l.length → (ens l).take (i * 5) ++ x.cells ++ (ens l).drop (i * 5 + 5) = ens (l.set i x)
  | [], i, _, h => by simp at h
  | p :: l, 0, x, _ => by
    rw [ens_cons, List.set_cons_zero, ens_cons]
    simp [List.drop_append, cells_len]
  | p :: l, i + 1, x, h => by
    have ih := ens_set l i x (by simpa using h)
    rw [ens_cons, List.set_cons_succ, ens_cons, ← ih, List.take_append, List.drop_append, cells_len, List.take_of_length_le (by rw [cells_len]; omega), List.drop_eq_nil_of_le (by rw [cells_len]; omega), show (i + 1) * 5 - 5 = i * 5 by omega, show (i + 1) * 5 + 5 - 5 = i * 5 + 5 by omega]
    simp

/-- One entry's cells, in block g from place o on. -/
def EAt (w : World) (g o : Nat) (x : En) : Prop :=
  w.cell? ⟨g, o, none⟩ = some (.int .i64 x.n) ∧ w.cell? ⟨g, o + 1, none⟩ = some (.string x.path) ∧ w.cell? ⟨g, o + 2, none⟩ = some (.string x.parent) ∧ w.cell? ⟨g, o + 3, none⟩ = some (.int .i64 x.ttl) ∧ w.cell? ⟨g, o + 4, none⟩ = some (.slice x.A x.sel.length x.c)
theorem eat_of {w : World} {g o : Nat} {x : En} (h : ∀ (j : Nat) (u : Value), x.cells[j]? = some u → w.cell? ⟨g, o + j, none⟩ = some u) : EAt w g o x :=
  ⟨h 0 _ rfl, h 1 _ rfl, h 2 _ rfl, h 3 _ rfl, h 4 _ rfl⟩
theorem EAt.keep {w w' : World} {g o : Nat} {x : En} (h : EAt w g o x) (hc : ∀ j, j < 5 → w'.cell? ⟨g, o + j, none⟩ = w.cell? ⟨g, o + j, none⟩) : EAt w' g o x :=
  ⟨(hc 0 (by omega)).trans h.1, (hc 1 (by omega)).trans h.2.1, (hc 2 (by omega)).trans h.2.2.1, (hc 3 (by omega)).trans h.2.2.2.1, (hc 4 (by omega)).trans h.2.2.2.2⟩
theorem EAt.below {w w' : World} {B g o : Nat} {x : En} (h : EAt w g o x) (hb : Below B w w') (hg : g < B) : EAt w' g o x := h.keep fun _ _ => hb.cell hg
theorem block_of_add (a : Addr) (n : Nat) : (a.add n).block = a.block := by unfold Addr.add; split <;> rfl

/-- Texts that lie at an address. -/
def StrsAt (w : World) (A : Option Addr) (ss : List ByteArray) : Prop :=
  0 < ss.length → ∃ b o, A = some ⟨b, o, none⟩ ∧ b < w.heap.size ∧ ∀ i, (h : i < ss.length) → w.cell? ⟨b, o + i, none⟩ = some (.string ss[i])
theorem StrsAt.below {w w' : World} {A : Option Addr} {ss : List ByteArray} (h : StrsAt w A ss) (hb : Below w.heap.size w w') : StrsAt w' A ss := fun hp => by
  obtain ⟨b, o, hA, hlt, hc⟩ := h hp
  exact ⟨b, o, hA, Nat.lt_of_lt_of_le hlt hb.size, fun i hi => (hb.cell (p := ⟨b, o + i, none⟩) hlt).trans (hc i hi)⟩
/-- Entries that lie at an address, with what they lead to. -/
structure EnsAt (w : World) (A : Option Addr) (l : List En) : Prop where
  at_ : 0 < l.length → ∃ b o, A = some ⟨b, o, none⟩ ∧ b < w.heap.size ∧ ∀ i, (h : i < l.length) → EAt w b (o + i * 5) l[i]
  sel : ∀ e ∈ l, StrsAt w e.A e.sel ∧ e.sel.length * 16 ≤ 140737488355328 ∧ (e.A = none → e.sel.length = 0 ∧ e.c = 0)
theorem EnsAt.below {w w' : World} {A : Option Addr} {l : List En} (h : EnsAt w A l) (hb : Below w.heap.size w w') : EnsAt w' A l :=
  ⟨fun hp => by
    obtain ⟨b, o, hA, hlt, hc⟩ := h.at_ hp
    exact ⟨b, o, hA, Nat.lt_of_lt_of_le hlt hb.size, fun i hi => (hc i hi).below hb hlt⟩, fun e he => ⟨(h.sel e he).1.below hb, (h.sel e he).2⟩⟩
theorem EnsAt.take {w : World} {A : Option Addr} {l : List En} (h : EnsAt w A l) (n : Nat) : EnsAt w A (l.take n) :=
  ⟨fun hp => by
    rw [List.length_take] at hp
    obtain ⟨b, o, hA, hlt, hc⟩ := h.at_ (by omega)
    refine ⟨b, o, hA, hlt, fun i hi => ?_⟩
    rw [List.length_take] at hi
    rw [List.getElem_take]
    exact hc i (by omega), fun e he => h.sel e (List.mem_of_mem_take he)⟩
theorem ea_cells {w : World} {base n g cap : Nat} {l : List En} (hown : w.ownsRow base 28 5 (.slice (some ⟨g, 0, none⟩) n cap) n (ens l)) (i : Nat) (hi : i < l.length) : EAt w g (i * 5) l[i] := by
  have hcells := hown.cells (g := g) rfl
  have e : ∀ j, (⟨g, 0, none⟩ : Addr).add j = ⟨g, j, none⟩ := fun j => by unfold Addr.add; split <;> simp_all
  refine eat_of fun j u hu => ?_
  have hj : j < 5 := (List.getElem?_eq_some_iff.1 hu).1
  have := hcells (i * 5 + j) u ((ens_at l i hi j hj).trans hu)
  rw [e] at this
  exact this
theorem own_shape {w : World} {base e size n : Nat} {v : Value} {xs : List Value} (h : w.ownsRow base e size v n xs) : ∃ A c, v = .slice A n c := by
  rcases h.2 with ⟨rfl, h0⟩ | ⟨g, cap, cur, rfl, _⟩
  · rw [h0]; exact ⟨_, _, rfl⟩
  · exact ⟨_, _, rfl⟩
theorem own_lt {w : World} {base e size n : Nat} {v : Value} {xs : List Value} {k : Nat} (h : w.ownsRow base e size v n xs) (hk : v.ownBlock = some k) : base ≤ k ∧ k < w.heap.size := by
  rcases h.2 with ⟨rfl, _⟩ | ⟨g', cap, cur, rfl, hg, hh, _⟩
  · simp [Value.ownBlock] at hk
  · have : g' = k := by simpa [Value.ownBlock] using hk
    subst this
    exact ⟨hg, (Array.getElem?_eq_some_iff.1 hh).1⟩
theorem own_weaken {w : World} {base base' e size : Nat} {v : Value} {n : Nat} {xs : List Value} (h : w.ownsRow base' e size v n xs) (hb : base ≤ base') : w.ownsRow base e size v n xs := by
  refine ⟨h.1, ?_⟩
  rcases h.2 with h | ⟨g, cap, cur, hv, hg, rest⟩
  · exact .inl h
  · exact .inr ⟨g, cap, cur, hv, Nat.le_trans hb hg, rest⟩
theorem own_ens {w : World} {base n : Nat} {A : Option Addr} {c : Nat} {l : List En} (h : w.ownsRow base 28 5 (.slice A n c) n (ens l)) (hn : l.length = n) (hs : ∀ e ∈ l, StrsAt w e.A e.sel ∧ e.sel.length * 16 ≤ 140737488355328 ∧ (e.A = none → e.sel.length = 0 ∧ e.c = 0)) : EnsAt w A l :=
  ⟨fun hp => by
    rcases h.2 with ⟨_, h0⟩ | ⟨gg, cap, cur, hv, _⟩
    · omega
    · injection hv with hv
      subst hv
      exact ⟨gg, 0, rfl, (own_lt h rfl).2, fun i hi => by rw [Nat.zero_add]; exact ea_cells h i hi⟩, hs⟩
theorem Try.info28 : (Try.prog.info? 28).map (fun i => (i.zero, i.size, i.bytes)) = some (some (.agg #[.int .i64 0, .string ⟨#[]⟩, .string ⟨#[]⟩, .int .i64 0, .slice none 0 0]), 5, 72) := by kernel_rfl
theorem Try.info9 : (Try.prog.info? 9).map (fun i => (i.zero, i.size, i.bytes)) = some (some (.string ⟨#[]⟩), 1, 16) := by kernel_rfl
theorem Try.info3 : (Try.prog.info? 3).map (fun i => (i.zero, i.size, i.bytes)) = some (some (.int .i64 0), 1, 8) := by kernel_rfl
end Go.Proofs.Ytcbfmpnkadkpdaa
