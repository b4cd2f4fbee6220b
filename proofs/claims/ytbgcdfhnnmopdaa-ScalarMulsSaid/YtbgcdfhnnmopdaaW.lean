/- Words for memory: what a call may turn, a block that is known whole. -/
import Derived.Test.YtbgcdfhnnmopdaaM3
import Derived.WalkKit
import Derived.WalkSpells
import Derived.WalkLawsBesides
import Derived.Lib.Hide
import Derived.Deep.OwnRows
import Derived.Deep.Upon
import Derived.Deep.MidRow
import Derived.Deep.AppendLies
import Derived.Deep.RegionLaw
import Derived.Deep.RegionHeld3
import Derived.Deep.Draws
import Derived.Deep.QuietTactic
import Derived.BigQuiet
import Derived.StillTailTactics
namespace Go.Proofs.Ytbgcdfhnnmopdaa
open Go.RowKit

theorem ret_int {k : IntKind} {a b : Int} (h : a = b) : Ending.returned (.int k a) = .returned (.int k b) := by rw [h]
theorem ret_bool {a b : Bool} (h : a = b) : Ending.returned (.bool a) = .returned (.bool b) := by rw [h]
theorem below_drewN {B : Nat} {a w : World} (h : Below B a w) (n : Nat) : Below B a (w.drewN n) := ⟨h.os, h.tape, h.output, h.size, h.block⟩

/-- Of the blocks that were there, only those of F may have turned. -/
structure Only (F : Nat → Prop) (w w' : World) : Prop where
  os : w'.os = w.os
  tape : w'.tape = w.tape
  output : w'.output = w.output
  size : w.heap.size ≤ w'.heap.size
  block : ∀ k, k < w.heap.size → ¬ F k → w'.heap[k]? = w.heap[k]?

section
variable {F G : Nat → Prop} {a w w' : World}
theorem Only.refl (F : Nat → Prop) (w : World) : Only F w w := ⟨rfl, rfl, rfl, Nat.le_refl _, fun _ _ _ => rfl⟩
theorem Only.trans {b c : World} (h : Only F a b) (k : Only F b c) : Only F a c :=
  ⟨k.os.trans h.os, k.tape.trans h.tape, k.output.trans h.output, Nat.le_trans h.size k.size, fun i hi hf => (k.block i (Nat.lt_of_lt_of_le hi h.size) hf).trans (h.block i hi hf)⟩
theorem Only.mono (h : Only F a w) (hf : ∀ k, k < a.heap.size → F k → G k) : Only G a w := ⟨h.os, h.tape, h.output, h.size, fun i hi hg => h.block i hi fun x => hg (hf i hi x)⟩
theorem Only.drew (h : Only F a w) : Only F a w.drew := ⟨h.os, h.tape, h.output, h.size, h.block⟩
theorem Only.drewN (h : Only F a w) (n : Nat) : Only F a (w.drewN n) := ⟨h.os, h.tape, h.output, h.size, h.block⟩
theorem Only.alloc (h : Only F a w) (o : Obj) : Only F a (w.alloc o) :=
  h.trans ⟨rfl, rfl, rfl, by simp, fun k hk _ => Below.heap_alloc _ _ _ hk⟩
theorem Only.setCell (h : Only F a w) {p : Addr} (hp : F p.block ∨ a.heap.size ≤ p.block) (u : Value) : Only F a (w.setCell p u) :=
  ⟨h.os, h.tape, h.output, by simpa [World.setCell] using h.size, fun k hk hf => (Below.heap_setCell _ _ _ _ (by
    rintro rfl
    rcases hp with hp | hp
    · exact hf hp
    · omega)).trans (h.block k hk hf)⟩
theorem Only.grown (h : Only F a w) {row : Option Nat} (hg : w.grownBy w' row) (hr : ∀ k, row = some k → F k ∨ a.heap.size ≤ k) : Only F a w' :=
  ⟨hg.os.trans h.os, hg.tape.trans h.tape, hg.output.trans h.output, Nat.le_trans h.size hg.size, fun k hk hf => (hg.block k (Nat.lt_of_lt_of_le hk h.size) (fun e => by
    rcases hr k e.symm with hp | hp
    · exact hf hp
    · omega)).trans (h.block k hk hf)⟩
theorem Only.then_ {b c : World} (h : Only F a b) (k : Only G b c) (hg : ∀ i, G i → F i ∨ a.heap.size ≤ i) : Only F a c :=
  ⟨k.os.trans h.os, k.tape.trans h.tape, k.output.trans h.output, Nat.le_trans h.size k.size, fun i hi hf => (k.block i (Nat.lt_of_lt_of_le hi h.size) (fun x => by
    rcases hg i x with y | y
    · exact hf y
    · omega)).trans (h.block i hi hf)⟩
theorem Only.below {B : Nat} (h : Only F a w) (hB : B ≤ a.heap.size) (hf : ∀ k, k < B → ¬ F k) : Below B a w := ⟨h.os, h.tape, h.output, h.size, fun k hk => h.block k (by omega) (hf k hk)⟩
theorem Only.of_below (h : Below a.heap.size a w) : Only F a w := ⟨h.os, h.tape, h.output, h.size, fun k hk _ => h.block k hk⟩
theorem Only.cell (h : Only F a w) {p : Addr} {u : Value} (hc : a.cell? p = some u) (hf : ¬ F p.block) : w.cell? p = some u :=
  (World.cell?_of_block (h.block p.block (World.block_lt_of_cell? a p hc) hf)).trans hc
end

/-- Block g is just the cells cs of type t, none of them frozen. -/
def Blk (w : World) (g : Nat) (t : TypeId) (cs : Array Value) : Prop := w.heap[g]? = some (.cells cs t (0, 0))

section
variable {w w' : World} {g : Nat} {t : TypeId} {cs : Array Value}
theorem Blk.lt (h : Blk w g t cs) : g < w.heap.size := (Array.getElem?_eq_some_iff.1 h).1
theorem Blk.cell (h : Blk w g t cs) (i : Nat) : w.cell? ⟨g, i, none⟩ = cs[i]? := cell_of_row w g i cs t (0, 0) h
theorem Blk.frozen (h : Blk w g t cs) (i : Nat) : w.frozen? ⟨g, i, none⟩ = false := by
  unfold Blk at h
  simp [World.frozen?, h]
theorem Blk.new (w : World) (t : TypeId) (cs : Array Value) : Blk (w.alloc (.cells cs t)) w.heap.size t cs := heap_alloc_new w _
theorem Blk.alloc (h : Blk w g t cs) (o : Obj) : Blk (w.alloc o) g t cs := (Below.heap_alloc w o g h.lt).trans h
theorem Blk.set_ (h : Blk w g t cs) (i : Nat) (u : Value) : Blk (w.setCell ⟨g, i, none⟩ u) g t (cs.setIfInBounds i u) := by
  unfold Blk at h ⊢
  simp [World.setCell, Array.getElem?_modify, h]
theorem Blk.far (h : Blk w g t cs) {p : Addr} (hp : g ≠ p.block) (u : Value) : Blk (w.setCell p u) g t cs := (Below.heap_setCell w p u g hp).trans h
theorem Blk.only {F : Nat → Prop} (h : Blk w g t cs) (hb : Only F w w') (hg : ¬ F g) : Blk w' g t cs := (hb.block g h.lt hg).trans h
theorem Blk.grown {row : Option Nat} (h : Blk w g t cs) (hb : w.grownBy w' row) (hg : some g ≠ row) : Blk w' g t cs := (hb.block g h.lt hg).trans h
theorem Blk.ne_ {g' : Nat} {t' : TypeId} {cs' : Array Value} (h : Blk w g t cs) (h' : Blk w g' t' cs') (hne : t ≠ t') : g ≠ g' := by
  rintro rfl
  unfold Blk at h h'
  rw [h] at h'
  injection h' with h'
  injection h' with _ ht
  exact hne ht
theorem own_blk_ne {base : Nat} {e : TypeId} {size n : Nat} {v : Value} {xs : List Value} (h : w.ownsRow base e size v n xs) (hg : Blk w g t cs) (hne : e ≠ t) : v.ownBlock ≠ some g := by
  rcases h.2 with ⟨rfl, _⟩ | ⟨g', cap, cur, rfl, _, hh, _⟩
  · simp [Value.ownBlock]
  · intro he
    have : g' = g := by simpa [Value.ownBlock] using he
    subst this
    exact Blk.ne_ (t := e) hh hg hne rfl
theorem own_only {F : Nat → Prop} {base : Nat} {e : TypeId} {size n : Nat} {v : Value} {xs : List Value} (h : w.ownsRow base e size v n xs) (hb : Only F w w') (hf : ∀ k, v.ownBlock = some k → ¬ F k) : w'.ownsRow base e size v n xs := by
  refine ⟨h.1, ?_⟩
  rcases h.2 with hn | ⟨g, cap, cur, rfl, hg, hh, rest⟩
  · exact .inl hn
  · refine .inr ⟨g, cap, cur, rfl, hg, ?_, rest⟩
    rw [hb.block g (Array.getElem?_eq_some_iff.1 hh).1 (hf g rfl)]
    exact hh
end


/-- An array with a stretch of its elements put in anew. -/
def splice (cs : Array Value) (o : Nat) (vs : List Value) : Array Value := (cs.toList.take o ++ vs ++ cs.toList.drop (o + vs.length)).toArray

theorem splice_size (cs : Array Value) (o : Nat) (vs : List Value) (h : o + vs.length ≤ cs.size) : (splice cs o vs).size = cs.size := by
  simp only [splice, List.size_toArray, List.length_append, List.length_take, List.length_drop, Array.length_toList]
  omega

theorem splice_nil (cs : Array Value) (o : Nat) : splice cs o [] = cs := by simp [splice]

theorem splice_cons (cs : Array Value) (o : Nat) (v : Value) (vs : List Value) (h : o + 1 + vs.length ≤ cs.size) : splice (cs.setIfInBounds o v) (o + 1) vs = splice cs o (v :: vs) := by
  obtain ⟨l⟩ := cs
  simp only [splice, List.setIfInBounds_toArray, List.length_cons]
  congr 1
  have hl : o < l.length := by simp at h; omega
  rw [List.take_succ_eq_append_getElem (by simpa using hl)]
  simp only [List.getElem_set_self, List.take_set_of_le (Nat.le_refl o), List.append_assoc, List.cons_append, List.nil_append]
  rw [List.drop_set_of_lt (by omega)]
  rw [show o + 1 + vs.length = o + (vs.length + 1) by omega]

theorem Blk.setCells {t : TypeId} {g : Nat} : ∀ (vs : List Value) (o : Nat) (w : World) (cs : Array Value), Blk w g t cs → o + vs.length ≤ cs.size → Blk (w.setCells g o vs) g t (splice cs o vs)
  | [], o, w, cs, h, _ => by rw [splice_nil]; exact h
  | v :: vs, o, w, cs, h, hl => by
    simp only [List.length_cons] at hl
    have := Blk.setCells vs (o + 1) _ _ (h.set_ o v) (by simp; omega)
    rw [splice_cons _ _ _ _ (by omega)] at this
    exact this

theorem Only.setCells {F : Nat → Prop} {a : World} {g : Nat} (hg : F g ∨ a.heap.size ≤ g) : ∀ (vs : List Value) (o : Nat) (w : World), Only F a w → Only F a (w.setCells g o vs)
  | [], _, _, h => h
  | v :: vs, o, _, h => Only.setCells hg vs (o + 1) _ (h.setCell (p := ⟨g, o, none⟩) hg v)

theorem splice_all (cs : Array Value) (vs : Array Value) (h : vs.size = cs.size) : splice cs 0 vs.toList = vs := by
  unfold splice
  rw [List.drop_of_length_le (by simp [h])]
  simp

/-- A row of numbers. -/
def Row (w : World) (b : Nat) (t : TypeId) (k : IntKind) (n : Nat) (f : Nat → Int) : Prop := w.rowIs b t n (fun i => .int k (f i))
section
variable {w w' : World} {b : Nat} {t : TypeId} {k : IntKind} {n : Nat} {f g : Nat → Int}
theorem Row.cell (h : Row w b t k n f) {i : Nat} (hi : i < n) : w.cell? ⟨b, i, none⟩ = some (.int k (f i)) := World.rowIs.cell h hi
theorem Row.frozen (h : Row w b t k n f) (i : Nat) : w.frozen? ⟨b, i, none⟩ = false := World.rowIs.frozen h i
theorem Row.lt (h : Row w b t k n f) : b < w.heap.size := World.rowIs.lt h
theorem Row.congr (h : Row w b t k n f) (e : ∀ i, i < n → f i = g i) : Row w b t k n g := World.rowIs.congr h (fun i hi => by rw [e i hi])
theorem Row.set (h : Row w b t k n f) (i : Nat) (v : Int) : Row (w.setCell ⟨b, i, none⟩ (.int k v)) b t k n (fun j => if j = i then v else f j) := by
  have := World.rowIs.set h i (.int k v)
  refine World.rowIs.congr this (fun j _ => ?_)
  by_cases e : j = i <;> simp [e]
theorem Row.setTo (h : Row w b t k n f) (i : Nat) (v : Int) (e : ∀ j, j < n → g j = if j = i then v else f j) : Row (w.setCell ⟨b, i, none⟩ (.int k v)) b t k n g := (h.set i v).congr fun j hj => (e j hj).symm
theorem Row.far (h : Row w b t k n f) {a : Addr} (ha : b ≠ a.block) (v : Value) : Row (w.setCell a v) b t k n f := World.rowIs.setOther h ha v
theorem Row.alloc (h : Row w b t k n f) (o : Obj) : Row (w.alloc o) b t k n f := World.rowIs.alloc h o
theorem Row.drew (h : Row w b t k n f) : Row w.drew b t k n f := h
theorem Row.drewN (h : Row w b t k n f) (m : Nat) : Row (w.drewN m) b t k n f := h
theorem Row.only {F : Nat → Prop} (h : Row w b t k n f) (hb : Only F w w') (hf : ¬ F b) : Row w' b t k n f := World.rowIs.of_block h (hb.block b h.lt hf)
theorem Row.below {B : Nat} (h : Row w b t k n f) (hb : Below B w w') (hf : b < B) : Row w' b t k n f := World.rowIs.of_block h (hb.block b hf)
end
end Go.Proofs.Ytbgcdfhnnmopdaa
