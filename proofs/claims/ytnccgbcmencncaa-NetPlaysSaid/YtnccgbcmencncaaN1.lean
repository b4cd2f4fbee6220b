/- Words for memory, and what the net's own functions do: New, Put, All. -/
import Derived.Test.YtnccgbcmencncaaRows
import Derived.WalkKit
import Derived.WalkSpells
import Derived.WalkLawsBesides
import Derived.Lib.Hide
import Derived.Deep.AppendLies
import Derived.Deep.RegionLaw
import Derived.Deep.Draws
import Derived.Deep.QuietTactic
import Derived.BigQuiet
namespace Go.Proofs.Ytnccgbcmencncaa
open Go.RowKit

/-- Of the blocks that were there, only those of F may have turned. -/
structure Only (F : Nat → Prop) (w w' : World) : Prop where
  os : w'.os = w.os
  tape : w'.tape = w.tape
  output : w'.output = w.output
  size : w.heap.size ≤ w'.heap.size
  block : ∀ k, k < w.heap.size → ¬ F k → w'.heap[k]? = w.heap[k]?

section
variable {F G : Nat → Prop} {a w w' : World}
theorem Only.refl (F : Nat → Prop) (w : World) : Only F w w := ⟨rfl, rfl, rfl, Nat.le_refl _, fun _ _ _ => rfl⟩
theorem Only.trans {b c : World} (h : Only F a b) (k : Only F b c) : Only F a c :=
  ⟨k.os.trans h.os, k.tape.trans h.tape, k.output.trans h.output, Nat.le_trans h.size k.size, fun i hi hf => (k.block i (Nat.lt_of_lt_of_le hi h.size) hf).trans (h.block i hi hf)⟩
theorem Only.mono (h : Only F a w) (hf : ∀ k, k < a.heap.size → F k → G k) : Only G a w := ⟨h.os, h.tape, h.output, h.size, fun i hi hg => h.block i hi fun x => hg (hf i hi x)⟩
theorem Only.drew (h : Only F a w) : Only F a w.drew := ⟨h.os, h.tape, h.output, h.size, h.block⟩
theorem Only.drewN (h : Only F a w) (n : Nat) : Only F a (w.drewN n) := ⟨h.os, h.tape, h.output, h.size, h.block⟩
theorem Only.alloc (h : Only F a w) (o : Obj) : Only F a (w.alloc o) :=
  h.trans ⟨rfl, rfl, rfl, by simp, fun k hk _ => Below.heap_alloc _ _ _ hk⟩
theorem Only.setCell (h : Only F a w) {p : Addr} (hp : F p.block ∨ a.heap.size ≤ p.block) (u : Value) : Only F a (w.setCell p u) :=
  ⟨h.os, h.tape, h.output, by simpa [World.setCell] using h.size, fun k hk hf => (Below.heap_setCell _ _ _ _ (by
    rintro rfl
    rcases hp with hp | hp
    · exact hf hp
    · omega)).trans (h.block k hk hf)⟩
theorem Only.grown (h : Only F a w) {row : Option Nat} (hg : w.grownBy w' row) (hr : ∀ k, row = some k → F k ∨ a.heap.size ≤ k) : Only F a w' :=
  ⟨hg.os.trans h.os, hg.tape.trans h.tape, hg.output.trans h.output, Nat.le_trans h.size hg.size, fun k hk hf => (hg.block k (Nat.lt_of_lt_of_le hk h.size) (fun e => by
    rcases hr k e.symm with hp | hp
    · exact hf hp
    · omega)).trans (h.block k hk hf)⟩
theorem Only.then_ {b c : World} (h : Only F a b) (k : Only G b c) (hg : ∀ i, G i → F i ∨ a.heap.size ≤ i) : Only F a c :=
  ⟨k.os.trans h.os, k.tape.trans h.tape, k.output.trans h.output, Nat.le_trans h.size k.size, fun i hi hf => (k.block i (Nat.lt_of_lt_of_le hi h.size) (fun x => by
    rcases hg i x with y | y
    · exact hf y
    · omega)).trans (h.block i hi hf)⟩
theorem Only.below {B : Nat} (h : Only F a w) (hB : B ≤ a.heap.size) (hf : ∀ k, k < B → ¬ F k) : Below B a w := ⟨h.os, h.tape, h.output, h.size, fun k hk => h.block k (by omega) (hf k hk)⟩
theorem Only.of_below (h : Below a.heap.size a w) : Only F a w := ⟨h.os, h.tape, h.output, h.size, fun k hk _ => h.block k hk⟩
theorem Only.cell (h : Only F a w) {p : Addr} {u : Value} (hc : a.cell? p = some u) (hf : ¬ F p.block) : w.cell? p = some u :=
  (World.cell?_of_block (h.block p.block (World.block_lt_of_cell? a p hc) hf)).trans hc
end

/-- Block g is just the cells cs of type t, none of them frozen. -/
def Blk (w : World) (g : Nat) (t : TypeId) (cs : Array Value) : Prop := w.heap[g]? = some (.cells cs t (0, 0))

section
variable {w w' : World} {g : Nat} {t : TypeId} {cs : Array Value}
theorem Blk.lt (h : Blk w g t cs) : g < w.heap.size := (Array.getElem?_eq_some_iff.1 h).1
theorem Blk.cell (h : Blk w g t cs) (i : Nat) : w.cell? ⟨g, i, none⟩ = cs[i]? := cell_of_row w g i cs t (0, 0) h
theorem Blk.frozen (h : Blk w g t cs) (i : Nat) : w.frozen? ⟨g, i, none⟩ = false := by
  unfold Blk at h
  simp [World.frozen?, h]
theorem Blk.new (w : World) (t : TypeId) (cs : Array Value) : Blk (w.alloc (.cells cs t)) w.heap.size t cs := heap_alloc_new w _
theorem Blk.alloc (h : Blk w g t cs) (o : Obj) : Blk (w.alloc o) g t cs := (Below.heap_alloc w o g h.lt).trans h
theorem Blk.set_ (h : Blk w g t cs) (i : Nat) (u : Value) : Blk (w.setCell ⟨g, i, none⟩ u) g t (cs.setIfInBounds i u) := by
  unfold Blk at h ⊢
  simp [World.setCell, Array.getElem?_modify, h]
theorem Blk.far (h : Blk w g t cs) {p : Addr} (hp : g ≠ p.block) (u : Value) : Blk (w.setCell p u) g t cs := (Below.heap_setCell w p u g hp).trans h
theorem Blk.only {F : Nat → Prop} (h : Blk w g t cs) (hb : Only F w w') (hg : ¬ F g) : Blk w' g t cs := (hb.block g h.lt hg).trans h
theorem Blk.grown {row : Option Nat} (h : Blk w g t cs) (hb : w.grownBy w' row) (hg : some g ≠ row) : Blk w' g t cs := (hb.block g h.lt hg).trans h
theorem Blk.ne_ {g' : Nat} {t' : TypeId} {cs' : Array Value} (h : Blk w g t cs) (h' : Blk w g' t' cs') (hne : t ≠ t') : g ≠ g' := by
  rintro rfl
  unfold Blk at h h'
  rw [h] at h'
  injection h' with h'
  injection h' with _ ht
  exact hne ht
theorem own_blk_ne {base : Nat} {e : TypeId} {size n : Nat} {v : Value} {xs : List Value} (h : w.ownsRow base e size v n xs) (hg : Blk w g t cs) (hne : e ≠ t) : v.ownBlock ≠ some g := by
  rcases h.2 with ⟨rfl, _⟩ | ⟨g', cap, cur, rfl, _, hh, _⟩
  · simp [Value.ownBlock]
  · intro he
    have : g' = g := by simpa [Value.ownBlock] using he
    subst this
    exact Blk.ne_ (t := e) hh hg hne rfl
theorem own_only {F : Nat → Prop} {base : Nat} {e : TypeId} {size n : Nat} {v : Value} {xs : List Value} (h : w.ownsRow base e size v n xs) (hb : Only F w w') (hf : ∀ k, v.ownBlock = some k → ¬ F k) : w'.ownsRow base e size v n xs := by
  refine ⟨h.1, ?_⟩
  rcases h.2 with hn | ⟨g, cap, cur, rfl, hg, hh, rest⟩
  · exact .inl hn
  · refine .inr ⟨g, cap, cur, rfl, hg, ?_, rest⟩
    rw [hb.block g (Array.getElem?_eq_some_iff.1 hh).1 (hf g rfl)]
    exact hh
end

/-- A packet. -/
structure Pk where
  src : Int
  dst : Int
  data : ByteArray
deriving DecidableEq

def Pk.cells (p : Pk) : List Value := [.int .i64 p.src, .int .i64 p.dst, .string p.data]
def Pk.agg (p : Pk) : Value := .agg #[.int .i64 p.src, .int .i64 p.dst, .string p.data]
def pks (l : List Pk) : List Value := l.flatMap Pk.cells

theorem pks_len (l : List Pk) : (pks l).length = l.length * 3 := by
  induction l with
  | nil => rfl
  | cons p l ih => simp [pks, Pk.cells] at ih ⊢; omega
theorem pks_append (l m : List Pk) : pks (l ++ m) = pks l ++ pks m := by simp [pks]
theorem pks_one (p : Pk) : pks [p] = p.cells := by simp [pks]
theorem pks_cell (l : List Pk) : ∀ (i : Nat) (h : i < l.length), (pks l)[i * 3]? = some (.int .i64 l[i].src) ∧ (pks l)[i * 3 + 1]? = some (.int .i64 l[i].dst) ∧ (pks l)[i * 3 + 2]? = some (.string l[i].data) := by
  induction l with
  | nil => intro i h; simp at h
  | cons p l ih =>
    intro i h
    match i with
    | 0 => simp [pks, Pk.cells]
    | i + 1 =>
      have := ih i (by simpa using h)
      have e : ∀ j, (pks (p :: l))[(i + 1) * 3 + j]? = (pks l)[i * 3 + j]? := by
        intro j
        have : (i + 1) * 3 + j = (i * 3 + j) + 3 := by omega
        rw [this]
        simp [pks, Pk.cells]
      simp only [List.getElem_cons_succ]
      exact ⟨(e 0).trans this.1, (e 1).trans this.2.1, (e 2).trans this.2.2⟩

theorem pks_one_cell (l : List Pk) : ∀ u ∈ pks l, u.oneCell' = true := by
  intro u hu
  simp only [pks, List.mem_flatMap] at hu
  obtain ⟨p, _, hp⟩ := hu
  simp only [Pk.cells, List.mem_cons, List.not_mem_nil, or_false] at hp
  rcases hp with rfl | rfl | rfl <;> rfl
theorem block_of_add (a : Addr) (n : Nat) : (a.add n).block = a.block := by unfold Addr.add; split <;> rfl

theorem Try.info28 : (Try.prog.info? 28).map (fun i => (i.zero, i.size, i.bytes)) = some (some (.agg #[.int .i64 0, .int .i64 0, .string ⟨#[]⟩]), 3, 32) := by kernel_rfl

/-- Block g of type T is a struct whose one field is a slice of the packets l, in a row of its own from block base on. -/
structure NetAt (w : World) (T base g : Nat) (v : Value) (l : List Pk) : Prop where
  hbase : base ≤ g
  blk : Blk w g T #[v]
  own : w.ownsRow base 28 3 v l.length (pks l)

/-- The blocks that a net is made of. -/
def foot (g : Nat) (v : Value) (k : Nat) : Prop := k = g ∨ v.ownBlock = some k
/-- A net's row is one of the elder net's, or a new one. -/
def Fresh (w : World) (v v' : Value) : Prop := ∀ k, v'.ownBlock = some k → v.ownBlock = some k ∨ w.heap.size ≤ k

theorem NetAt.only {w w' : World} {T base g : Nat} {v : Value} {l : List Pk} {F : Nat → Prop} (h : NetAt w T base g v l) (hb : Only F w w') (hf : ∀ k, foot g v k → ¬ F k) : NetAt w' T base g v l :=
  ⟨h.hbase, h.blk.only hb (hf g (.inl rfl)), own_only h.own hb fun k hk => hf k (.inr hk)⟩

set_option maxHeartbeats 400000 in
theorem new_any (w : World) : Calls Try.prog 7 #[] w fun e w' => e = .returned (.pointer (some ⟨w.heap.size, 0, none⟩)) ∧ NetAt w' 48 w.heap.size w.heap.size (.slice none 0 0) [] ∧ Below w.heap.size w w' := by
  go_enter Try.func7, Try.ntmps7
  go_wp2
  go_ret
  exact ⟨rfl, ⟨Nat.le_refl _, Blk.new _ _ _, World.ownsRow_nil _ _ _ _⟩, (Below.refl _ _).alloc (Nat.le_refl _) _⟩

def PutPost (T base g : Nat) (v : Value) (l : List Pk) (w : World) (e : Ending) (w' : World) : Prop :=
  e = .returned (.int .i64 0) ∧ ∃ v', NetAt w' T base g v' l ∧ Only (foot g v) w w' ∧ Fresh w v v'

theorem heap2 (w : World) (o1 o2 : Obj) : ((w.alloc o1).alloc o2).drew.heap[w.heap.size + 1]? = some o2 := by
  have h := heap_alloc_new (w.alloc o1) o2
  simpa [World.drew] using h
theorem size2 (w : World) (o1 o2 : Obj) : ((w.alloc o1).alloc o2).drew.heap.size = w.heap.size + 2 := by simp

theorem put_done {T base g : Nat} {A : Option Addr} {c : Nat} {l : List Pk} {p : Pk} {w w1 : World} {o1 o2 : Obj} {gg cap : Nat} (h : NetAt w T base g (.slice A l.length c) l) (hT : T ≠ 28)
    (hown1 : w1.ownsRow base 28 3 (.slice (some ⟨gg, 0, none⟩) (l.length + 1) cap) (l.length + 1) (pks l ++ p.cells)) (hgrow : ((w.alloc o1).alloc o2).drew.grownBy w1 (Value.slice A l.length c).ownBlock)
    (hat : (Value.slice A l.length c).ownBlock = some gg ∨ gg = w.heap.size + 2) :
    PutPost T base g (.slice A l.length c) (l ++ [p]) w (.returned (.int .i64 0)) (w1.setCell ⟨g, 0, none⟩ (.slice (some ⟨gg, 0, none⟩) (l.length + 1) cap)) := by
  have hne := own_blk_ne h.own h.blk (Ne.symm hT)
  have hlt := h.blk.lt
  have b1 : Blk w1 g T #[.slice A l.length c] := Blk.grown (w := ((w.alloc o1).alloc o2).drew) ((h.blk.alloc o1).alloc o2) hgrow (Ne.symm hne)
  have hgg : gg ≠ g := by
    rcases hat with e | e
    · intro x; subst x; exact hne e
    · omega
  refine ⟨rfl, _, ⟨h.hbase, b1.set_ 0 _, ?_⟩, ?_, ?_⟩
  · simp only [List.length_append, List.length_singleton, pks_append, pks_one]
    exact own_only (F := fun k => k = g) hown1 (Only.setCell (F := fun k => k = g) (p := ⟨g, 0, none⟩) (Only.refl _ _) (.inl rfl) _) (by intro k hk e; subst e; exact hgg (by simpa [Value.ownBlock] using hk))
  · refine Only.setCell (Only.grown (((Only.refl _ _).alloc o1).alloc o2).drew hgrow ?_) (.inl (.inl rfl)) _
    exact fun k hk => .inl (.inr hk)
  · intro k hk
    have : gg = k := by simpa [Value.ownBlock] using hk
    subst this
    rcases hat with e | e
    · exact .inl e
    · exact .inr (by omega)

set_option maxHeartbeats 1000000 in
theorem put_room (base g : Nat) (v : Value) (l : List Pk) (p : Pk) (w : World) (h : NetAt w 48 base g v l) (hl : l.length < 60) (hb : base ≤ w.heap.size) :
    Calls Try.prog 8 #[.pointer (some ⟨g, 0, none⟩), p.agg] w (PutPost 48 base g v (l ++ [p]) w) := by
  obtain ⟨i0, hi0, hz0, hz1, hz2⟩ := info_parts Try.info28
  have hown := h.own
  obtain ⟨A, c, rfl⟩ : ∃ A c, v = .slice A l.length c := by
    rcases hown.2 with ⟨rfl, h0⟩ | ⟨g, cap, cur, rfl, _⟩
    · rw [h0]; exact ⟨_, _, rfl⟩
    · exact ⟨_, _, rfl⟩
  obtain ⟨src, dst, data⟩ := p
  have hg := h.blk.cell 0
  simp only [List.getElem?_toArray, List.getElem?_cons_zero] at hg
  have hgf := h.blk.frozen 0
  have hlt := h.blk.lt
  have hn : ¬ (60 : Int) ≤ (l.length : Int) := by omega
  have hne := own_blk_ne hown h.blk (by decide)
  have H := Lib.hid h
  have HO := Lib.hid hown
  have HN := Lib.hid hne
  clear h hown hne
  show Calls Try.prog 8 #[.pointer (some ⟨g, 0, none⟩), .agg #[.int .i64 src, .int .i64 dst, .string data]] w _
  go_enter Try.func8, Try.ntmps8
  go_wp2_with fail
  go_region_law ((refine step_append_lies _ (by rfl) (.tmp 15) (.tmp 17) 22 (by rfl) base 28 i0 _ 3 32 Try.underlying22 hi0 hz0 hz1 hz2 rfl (by omega) (.slice A l.length c) l.length (pks l) (by simp [Act.eval]) ((HO.out.alloc _).alloc _) ⟨w.heap.size + 1, 0, none⟩ 1 1 [.int .i64 src, .int .i64 dst, .string data] (by simp [Act.eval]) (by rfl) (World.news_of_block (cs := #[.int .i64 src, .int .i64 dst, .string data]) (t := 28) (fr := (0, 0)) (heap2 _ _ _)) (by simp [Value.oneCell']) (by omega) (by unfold maxLen; omega) (by omega) (by simp; omega) (w.heap.size + 2) (size2 _ _ _) ?_; intro gg cap w1 hown1 hgrow hat hlt1; have c1 : w1.cell? ⟨g, 0, none⟩ = some (.slice A l.length c) := (by rw [hgrow.cell_far _ (by simp; omega) (Ne.symm HN.out)]; go_simp); have c2 : w1.frozen? ⟨g, 0, none⟩ = false := (by rw [hgrow.frozen_far _ (by simp; omega) (Ne.symm HN.out)]; go_simp)))
  all_goals
    go_wp2
    go_ret
    exact put_done (p := ⟨src, dst, data⟩) H.out (by decide) hown1 hgrow hat

set_option maxHeartbeats 1000000 in
theorem put_full (base g : Nat) (v : Value) (l : List Pk) (p : Pk) (w : World) (h : NetAt w 48 base g v l) (hl : 60 ≤ l.length) :
    Calls Try.prog 8 #[.pointer (some ⟨g, 0, none⟩), p.agg] w fun e w' => e = .returned (.int .i64 6) ∧ Below w.heap.size w w' := by
  have hown := h.own
  obtain ⟨A, c, rfl⟩ : ∃ A c, v = .slice A l.length c := by
    rcases hown.2 with ⟨rfl, h0⟩ | ⟨g, cap, cur, rfl, _⟩
    · rw [h0]; exact ⟨_, _, rfl⟩
    · exact ⟨_, _, rfl⟩
  obtain ⟨src, dst, data⟩ := p
  have hg := h.blk.cell 0
  simp only [List.getElem?_toArray, List.getElem?_cons_zero] at hg
  have hlt := h.blk.lt
  have hn : (60 : Int) ≤ (l.length : Int) := by omega
  clear h hown
  show Calls Try.prog 8 #[.pointer (some ⟨g, 0, none⟩), .agg #[.int .i64 src, .int .i64 dst, .string data]] w _
  go_enter Try.func8, Try.ntmps8
  go_wp2_with fail
  go_ret
  exact ⟨rfl, (Below.refl _ _).alloc (Nat.le_refl _) _⟩

set_option maxHeartbeats 1000000 in
theorem clone_any (base : Nat) (v : Value) (l : List Pk) (w : World) (hown : w.ownsRow base 28 3 v l.length (pks l)) (hl : l.length ≤ 1000) :
    Calls Try.prog 16 #[v] w fun e w' => ∃ v', e = .returned v' ∧ w'.ownsRow w.heap.size 28 3 v' l.length (pks l) ∧ Below w.heap.size w w' := by
  obtain ⟨i0, hi0, hz0, hz1, hz2⟩ := info_parts Try.info28
  have hq := fun (wx : World) (A : Option Addr) (n c : Nat) => Lib.run_eql_slice_nil (P := Try.prog) wx 22 28 A n c 0 0 Try.underlying22
  rcases hown.2 with ⟨rfl, h0⟩ | ⟨g, cap, cur, rfl, _⟩
  · go_enter Try.func16, Try.ntmps16
    go_wp2
    go_ret
    exact ⟨_, rfl, ⟨hown.1, .inl ⟨rfl, h0⟩⟩, Below.refl _ _⟩
  · have HO := Lib.hid hown
    clear hown
    go_enter Try.func16, Try.ntmps16
    go_wp2_with (at_builtin; refine wpList_append_own _ rfl (.tmp 5) (.tmp 6) 22 rfl w.heap.size 28 i0 _ 3 32 Try.underlying22 hi0 hz0 hz1 hz2 rfl (by omega) _ 0 [] rfl (World.ownsRow_made w #[] 0 (Nat.le_refl _) (by omega) rfl) ⟨g, 0, none⟩ l.length cap (pks l) rfl (pks_len l) ?c1 ?c2 ?c3 ?c4 ?c5 ?_)
    case c1 => exact fun j u hu => (World.cell?_alloc_lt w _ _ (by
      have h1 := (HO.out.lt g rfl).2
      rw [block_of_add]; exact h1)).trans (HO.out.cells (g := g) rfl j u hu)
    case c2 => exact pks_one_cell l
    case c3 => unfold maxLen; omega
    case c4 => omega
    case c5 => simp
    intro v1 w1 hown1 hgrow1 _
    go_wp2
    go_ret
    exact ⟨_, rfl, hown1, ((Below.refl _ _).alloc (Nat.le_refl _) _).grown hgrow1 (by simp) (by simp [Value.ownBlock])⟩
end Go.Proofs.Ytnccgbcmencncaa
