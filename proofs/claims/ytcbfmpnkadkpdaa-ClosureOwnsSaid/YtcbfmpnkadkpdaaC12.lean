/- Chain's two predicates: the walks. -/
import Derived.Test.YtcbfmpnkadkpdaaC11
import Derived.Test.YtcbfmpnkadkpdaaM3
set_option linter.unusedVariables false
namespace Go.Proofs.Ytcbfmpnkadkpdaa
open Go.RowKit

theorem isN_any (B : Nat) (n : Int) (x : En) (W : World) (h : Blk W B 3 #[.int .i64 n]) :
    Calls Try.prog 20 #[x.agg, .pointer (some ⟨B, 0, none⟩)] W fun en w' => en = .returned (.bool (isN n x)) ∧ Below W.heap.size W w' := by
  have c0 := h.cell 0
  simp only [List.getElem?_toArray, List.getElem?_cons_zero] at c0
  have hlt := h.lt
  clear h
  go_enter Try.func20, Try.ntmps20
  by_cases hx : x.n = n
  · have e1 : (x.n == n) = true := by simpa using hx
    go_wp2_with fail
    go_ret
    exact ⟨ret_bool (decide_eq_true hx).symm, (Below.refl _ _).alloc (Nat.le_refl _) _⟩
  · have e1 : (x.n == n) = false := by simpa using hx
    go_wp2_with fail
    go_ret
    exact ⟨ret_bool (decide_eq_false hx).symm, (Below.refl _ _).alloc (Nat.le_refl _) _⟩
theorem isN_pred (B : Nat) (n : Int) (l : List En) : Pred (fun W => Blk W B 3 #[.int .i64 n]) 20 #[.pointer (some ⟨B, 0, none⟩)] (isN n) l :=
  ⟨fun W x _ h => isN_any B n x W h, fun W W' h hb => (hb.block B h.lt).trans h, enters_of Try.func20 (by kernel_rfl) rfl⟩

/-- What Chain's second predicate reads. -/
structure NextI (B8 B9 B3 B7 b N : Nat) (agent : ByteArray) (d : ByteArray → Option Nat) (A : Option Addr) (c : Nat) (l : List En) (left i : Nat) (W : World) : Prop where
  m8 : Blk W B8 41 #[.map (some b)]
  m9 : Blk W B9 3 #[.int .i64 left]
  m3 : Blk W B3 22 #[.slice A l.length c]
  m7 : Blk W B7 3 #[.int .i64 i]
  map : MapR W b N agent d
  ens : EnsAt W A l
theorem NextI.below {B8 B9 B3 B7 b N : Nat} {agent : ByteArray} {d : ByteArray → Option Nat} {A : Option Addr} {c : Nat} {l : List En} {left i : Nat} {W W' : World} (h : NextI B8 B9 B3 B7 b N agent d A c l left i W) (hb : Below W.heap.size W W') : NextI B8 B9 B3 B7 b N agent d A c l left i W' :=
  ⟨(hb.block _ h.m8.lt).trans h.m8, (hb.block _ h.m9.lt).trans h.m9, (hb.block _ h.m3.lt).trans h.m3, (hb.block _ h.m7.lt).trans h.m7, h.map.below hb, h.ens.below hb⟩

set_option maxRecDepth 100000 in
set_option maxHeartbeats 4000000 in
theorem isNext_any (B8 B9 B3 B7 b N : Nat) (agent : ByteArray) (d : ByteArray → Option Nat) (A : Option Addr) (c : Nat) (l : List En) (left i : Nat) (hi : i < l.length) (hn : l.length ≤ 100) (hl : left ≤ 1000) (hbd : ∀ p n, d p = some n → n ≤ 100) (x : En) (hx : x.parent.size ≤ maxLen) (W : World) (h : NextI B8 B9 B3 B7 b N agent d A c l left i W) :
    Calls Try.prog 23 #[x.agg, .pointer (some ⟨B8, 0, none⟩), .pointer (some ⟨B9, 0, none⟩), .pointer (some ⟨B3, 0, none⟩), .pointer (some ⟨B7, 0, none⟩)] W fun en w' => en = .returned (.bool (isNext agent d left (parI l i) x)) ∧ Below W.heap.size W w' := by
  have sc := step_any b N agent d x (W.alloc (.cells #[.int .i64 x.n, .string x.path, .string x.parent, .int .i64 x.ttl, .slice x.A x.sel.length x.c] 28)) (h.map.below ((Below.refl _ _).alloc (Nat.le_refl _) _)) hx (fun p n hp => by have := hbd p n hp; omega)
  have h2 := (h.below ((Below.refl _ _).alloc (Nat.le_refl _) (.cells #[.int .i64 x.n, .string x.path, .string x.parent, .int .i64 x.ttl, .slice x.A x.sel.length x.c] 28))).below ((Below.refl _ _).alloc (Nat.le_refl _) (.cells #[.int .i64 x.n, .string x.path, .string x.parent, .int .i64 x.ttl, .slice x.A x.sel.length x.c] 28))
  have H2 := Lib.hid h2
  have HB : Hid (Below W.heap.size W ((W.alloc (.cells #[.int .i64 x.n, .string x.path, .string x.parent, .int .i64 x.ttl, .slice x.A x.sel.length x.c] 28)).alloc (.cells #[.int .i64 x.n, .string x.path, .string x.parent, .int .i64 x.ttl, .slice x.A x.sel.length x.c] 28))) := Lib.hid (((Below.refl _ _).alloc (Nat.le_refl _) _).alloc (by rw [World.size_alloc]; omega) _)
  have BX : Hid (Blk ((W.alloc (.cells #[.int .i64 x.n, .string x.path, .string x.parent, .int .i64 x.ttl, .slice x.A x.sel.length x.c] 28)).alloc (.cells #[.int .i64 x.n, .string x.path, .string x.parent, .int .i64 x.ttl, .slice x.A x.sel.length x.c] 28)) W.heap.size 28 #[.int .i64 x.n, .string x.path, .string x.parent, .int .i64 x.ttl, .slice x.A x.sel.length x.c]) := Lib.hid ((Blk.new W 28 _).alloc _)
  have g8 := h.m8.cell 0
  simp only [List.getElem?_toArray, List.getElem?_cons_zero] at g8
  have hlt8 := h.m8.lt
  clear h h2
  have T : Hid (∀ r : Option Nat, stepR agent d x = r → isNext agent d left (parI l i) x = (decide (r = some left) && decide (x.path = parI l i))) := Lib.hid fun r hr => by
    unfold isNext
    rw [hr]
    by_cases c1 : r = some left <;> by_cases c2 : x.path = parI l i <;> simp [c1, c2]
  have i0 : (0 : Int) ≤ (i : Int) := by omega
  have i1 : (i : Int) < (l.length : Int) := by omega
  cases hs : stepR agent d x with
  | none =>
    rw [hs] at sc
    have SC : Hid (Calls Try.prog 22 #[.map (some b), x.agg] (W.alloc (.cells #[.int .i64 x.n, .string x.path, .string x.parent, .int .i64 x.ttl, .slice x.A x.sel.length x.c] 28)) fun en w' => en = .returned (.tuple #[.int .i64 1, .bool false]) ∧ w' = (W.alloc (.cells #[.int .i64 x.n, .string x.path, .string x.parent, .int .i64 x.ttl, .slice x.A x.sel.length x.c] 28)).alloc (.cells #[.int .i64 x.n, .string x.path, .string x.parent, .int .i64 x.ttl, .slice x.A x.sel.length x.c] 28)) := Lib.hid sc
    have TT := Lib.hid (T.out none hs)
    clear sc hs T
    go_enter Try.func23, Try.ntmps23
    go_upto_region 2 with (go_at_call 22; (with_reducible refine SC.out.mono ?_); rintro en w2 ⟨rfl, rfl⟩)
    generalize (W.alloc (.cells #[.int .i64 x.n, .string x.path, .string x.parent, .int .i64 x.ttl, .slice x.A x.sel.length x.c] 28)).alloc (.cells #[.int .i64 x.n, .string x.path, .string x.parent, .int .i64 x.ttl, .slice x.A x.sel.length x.c] 28) = W2 at *
    go_quiet (fail)
    go_wp2_with fail
    go_ret
    exact ⟨ret_bool (by rw [TT.out]; rfl), below_n HB.out _⟩
  | some m =>
    rw [hs] at sc
    have SC : Hid (Calls Try.prog 22 #[.map (some b), x.agg] (W.alloc (.cells #[.int .i64 x.n, .string x.path, .string x.parent, .int .i64 x.ttl, .slice x.A x.sel.length x.c] 28)) fun en w' => en = .returned (.tuple #[.int .i64 m, .bool true]) ∧ w' = (W.alloc (.cells #[.int .i64 x.n, .string x.path, .string x.parent, .int .i64 x.ttl, .slice x.A x.sel.length x.c] 28)).alloc (.cells #[.int .i64 x.n, .string x.path, .string x.parent, .int .i64 x.ttl, .slice x.A x.sel.length x.c] 28)) := Lib.hid sc
    have TT := Lib.hid (T.out (some m) hs)
    clear sc hs T
    go_enter Try.func23, Try.ntmps23
    go_upto_region 2 with (go_at_call 22; (with_reducible refine SC.out.mono ?_); rintro en w2 ⟨rfl, rfl⟩)
    generalize (W.alloc (.cells #[.int .i64 x.n, .string x.path, .string x.parent, .int .i64 x.ttl, .slice x.A x.sel.length x.c] 28)).alloc (.cells #[.int .i64 x.n, .string x.path, .string x.parent, .int .i64 x.ttl, .slice x.A x.sel.length x.c] 28) = W2 at *
    have x1 := BX.out.cell 1
    have g9 := H2.out.m9.cell 0
    have g3 := H2.out.m3.cell 0
    have g7 := H2.out.m7.cell 0
    simp only [List.getElem?_toArray, List.getElem?_cons_zero, List.getElem?_cons_succ] at x1 g9 g3 g7
    obtain ⟨b', o, rfl, hbl, hce⟩ := H2.out.ens.at_ (by omega)
    have z2 := (hce i hi).2.2.1
    have hpar : Hid (parI l i = l[i].parent) := Lib.hid (by rw [parI, dif_pos hi])
    clear hce
    by_cases hm : m = left
    · have e1 : ((m : Int) == (left : Int)) = true := by rw [hm]; exact beq_self_eq_true _
      by_cases hp : x.path = l[i].parent
      · have e2 := teq_true hp
        have TR : Hid (isNext agent d left (parI l i) x = true) := Lib.hid (by rw [TT.out, hm, hpar.out]; simp [hp])
        clear TT hp hpar
        generalize l[i].parent = q at *
        go_quiet (fail)
        go_wp2_with fail
        go_ret
        exact ⟨ret_bool TR.out.symm, below_n HB.out _⟩
      · have e2 := teq_false hp
        have TR : Hid (isNext agent d left (parI l i) x = false) := Lib.hid (by rw [TT.out, hpar.out]; simp [hp])
        clear TT hp hpar
        generalize l[i].parent = q at *
        go_quiet (fail)
        go_wp2_with fail
        go_ret
        exact ⟨ret_bool TR.out.symm, below_n HB.out _⟩
    · have e1 : ((m : Int) == (left : Int)) = false := by simp; omega
      have TR : Hid (isNext agent d left (parI l i) x = false) := Lib.hid (by rw [TT.out]; simp [hm])
      clear TT hpar
      go_quiet (fail)
      go_wp2_with fail
      go_ret
      exact ⟨ret_bool TR.out.symm, below_n HB.out _⟩
theorem isNext_pred (B8 B9 B3 B7 b N : Nat) (agent : ByteArray) (d : ByteArray → Option Nat) (A : Option Addr) (c : Nat) (l : List En) (left i : Nat) (hi : i < l.length) (hn : l.length ≤ 100) (hl : left ≤ 1000) (hbd : ∀ p n, d p = some n → n ≤ 100) (hsz : ∀ e ∈ l, e.path.size ≤ maxLen ∧ e.parent.size ≤ maxLen) :
    Pred (NextI B8 B9 B3 B7 b N agent d A c l left i) 23 #[.pointer (some ⟨B8, 0, none⟩), .pointer (some ⟨B9, 0, none⟩), .pointer (some ⟨B3, 0, none⟩), .pointer (some ⟨B7, 0, none⟩)] (isNext agent d left (parI l i)) l :=
  ⟨fun W x hx h => isNext_any B8 B9 B3 B7 b N agent d A c l left i hi hn hl hbd x (hsz x hx).2 W h, fun W W' h hb => h.below hb, enters_of Try.func23 (by kernel_rfl) rfl⟩

theorem idx_none {p : En → Bool} {l : List En} (h : Idx p l (-1)) : l.findIdx p = l.length := by
  rcases h with ⟨_, h⟩ | ⟨k, h, _⟩
  · refine List.findIdx_eq_length.2 fun x hx => ?_
    obtain ⟨j, hj, rfl⟩ := List.getElem_of_mem hx
    exact h j hj
  · omega
theorem idx_some {p : En → Bool} {l : List En} {r : Int} (h : Idx p l r) (hl : l.findIdx p < l.length) : r = (l.findIdx p : Nat) := by
  rcases h with ⟨rfl, h⟩ | ⟨k, rfl, hk, h1, h2⟩
  · rw [List.findIdx_eq_length.2 (fun x hx => by
      obtain ⟨j, hj, rfl⟩ := List.getElem_of_mem hx
      exact h j hj)] at hl
    omega
  · have := (List.findIdx_eq hk).2 ⟨h1, fun j hj => h2 j hj⟩
    rw [this]
theorem idx_or {p : En → Bool} {l : List En} {r : Int} (h : Idx p l r) : (r = -1 ∧ ¬ l.findIdx p < l.length) ∨ (l.findIdx p < l.length ∧ r = (l.findIdx p : Nat)) := by
  by_cases c : l.findIdx p < l.length
  · exact .inr ⟨c, idx_some h c⟩
  · rcases h with ⟨rfl, h⟩ | ⟨k, rfl, hk, h1, h2⟩
    · exact .inl ⟨rfl, c⟩
    · exact absurd (List.findIdx_lt_length.2 ⟨l[k], List.getElem_mem hk, h1⟩) c
end Go.Proofs.Ytcbfmpnkadkpdaa
