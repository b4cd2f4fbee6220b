/- The library's functions with a predicate: IndexFunc, DeleteFunc: the walks. -/
import Derived.Test.YtffmhejkhimkcaaC1
namespace Go.Proofs.Ytffmhejkhimkcaa
open Go.RowKit

/-- What is asked of a predicate: wherever I holds it tells p, and turns nothing. -/
structure Pred (I : World → Prop) (g : Nat) (lb : Array Value) (p : Kt → Bool) : Prop where
  call : ∀ W x, I W → Calls Try.prog g (#[x.agg] ++ lb) W fun e w' => e = .returned (.bool (p x)) ∧ Below W.heap.size W w'
  keep : ∀ W W', I W → Below W.heap.size W W' → I W'
  enters : ∀ args w, (callFunc g args).run Try.prog w = .ok (.enter g args) w

def isM (e : Int) (a : ByteArray) (x : Kt) : Bool := decide (x.entry = e) && decide (x.aud = a)

theorem run_eql_mark (e e' : Int) (a a' : ByteArray) (w : World) : (binOp .eql 51 (.agg #[.int .i64 e, .string a]) (.agg #[.int .i64 e', .string a'])).run Try.prog w = .ok (.bool (decide (e = e' ∧ a = a'))) w := by
  have hp : Try.prog.stoodInHeld 51 = false := by kernel_rfl
  rw [run_eql_struct, run_equalIn_agg w 9999 51 _ _ (by kernel_rfl) hp]
  simp [go_sem]
  simp only [toList_eq_iff]
  by_cases h1 : e = e' <;> by_cases h2 : a = a' <;> simp [h1, h2]

theorem isP_any (B : Nat) (e : Int) (a : ByteArray) (x : Kt) (W : World) (h : Blk W B 51 #[.int .i64 e, .string a]) :
    Calls Try.prog 33 #[x.agg, .pointer (some ⟨B, 0, none⟩)] W fun en w' => en = .returned (.bool (isM e a x)) ∧ Below W.heap.size W w' := by
  have c0 := h.cell 0
  have c1 := h.cell 1
  simp only [List.getElem?_toArray, List.getElem?_cons_zero, List.getElem?_cons_succ] at c0 c1
  have hlt := h.lt
  have hq := run_eql_mark x.entry e x.aud a
  clear h
  go_enter Try.func33, Try.ntmps33
  go_wp2_with fail
  go_ret
  exact ⟨rfl, (Below.refl _ _).alloc (Nat.le_refl _) _⟩
theorem isP_pred (B : Nat) (e : Int) (a : ByteArray) : Pred (fun W => Blk W B 51 #[.int .i64 e, .string a]) 33 #[.pointer (some ⟨B, 0, none⟩)] (isM e a) :=
  ⟨fun W x h => isP_any B e a x W h, fun W W' h hb => (hb.block B h.lt).trans h, enters_of Try.func33 (by kernel_rfl) rfl⟩
theorem is_any (e : Int) (a : ByteArray) (W : World) : Calls Try.prog 19 #[.agg #[.int .i64 e, .string a]] W fun en w' => en = .returned (.func (.func 33) #[] #[.pointer (some ⟨W.heap.size, 0, none⟩)]) ∧ w' = W.alloc (.cells #[.int .i64 e, .string a] 51) := by
  go_enter Try.func19, Try.ntmps19
  go_wp2_with fail
  go_ret
  exact ⟨rfl, rfl⟩

/-- Where the first one is of which p holds. -/
def Idx (p : Kt → Bool) (l : List Kt) (r : Int) : Prop :=
  (r = -1 ∧ ∀ k, (h : k < l.length) → p l[k] = false) ∨ ∃ k : Nat, r = k ∧ ∃ h : k < l.length, p l[k] = true ∧ ∀ j, (hj : j < k) → p (l[j]'(Nat.lt_trans hj h)) = false

set_option maxHeartbeats 1000000 in
theorem index_any (I : World → Prop) (f : Nat) (lb : Array Value) (p : Kt → Bool) (hp : Pred I f lb p) (A : Option Addr) (l : List Kt) (c : Nat) (w : World) (hI : I w) (hl : l.length ≤ 1000000) (hA : 0 < l.length → ∃ g, A = some ⟨g, 0, none⟩ ∧ g < w.heap.size ∧ CellsAt w g l) :
    Calls Try.prog 24 #[.slice A l.length c, .func (.func f) #[] lb] w fun e w' => ∃ r, e = .returned (.int .i64 r) ∧ Idx p l r ∧ Below w.heap.size w w' := by
  have hp1 := Lib.hid hp.call
  have hp2 := Lib.hid hp.keep
  have eg := hp.enters
  have HA := Lib.hid hA
  clear hA hp
  go_enter Try.func24, Try.ntmps24
  go_wp2_with fail
  go_loopw [5, 8] (fun _ q wr => ∃ k : Nat, k ≤ l.length ∧ q = .int .i64 k ∧ Hid (∀ j, (h : j < l.length) → j < k → p l[j] = false) ∧ I wr ∧ Below w.heap.size w wr) (fun _ q _ => l.length - (intOf q).toNat)
  case atStart => exact ⟨0, by omega, rfl, Lib.hid fun j _ h => by omega, hI, Below.refl _ _⟩
  case round =>
    obtain ⟨k, hk, rfl, hq, hi, hb⟩ := hrel
    by_cases hlt : k < l.length
    · obtain ⟨g, rfl, hg, hc⟩ := HA.out (by omega)
      obtain ⟨x0, x1, x2, x3, x4, x5, x6⟩ := (hc k hlt).below hb hg
      have k0 : (0 : Int) ≤ (k : Int) := by omega
      have k1 : (k : Int) < (l.length : Int) := by omega
      have HB := Lib.hid hb
      have C := Lib.hid (hp1.out wr l[k] hi)
      have K := Lib.hid (fun w' h => hp2.out wr w' hi h)
      clear hc hi hb
      cases hpk : p l[k] with
      | true =>
        have HF : Hid (Idx p l k) := Lib.hid (.inr ⟨k, rfl, hlt, hpk, fun j hj => hq.out j _ hj⟩)
        rw [hpk] at C
        clear hpk hq
        generalize l[k] = x at *
        go_wp2_with (go_at_fn f; refine C.out.mono ?_; rintro e w' ⟨rfl, hb'⟩; have HB' := Lib.hid hb'; clear hb')
        go_ret
        exact ⟨_, rfl, HF.out, HB.out.trans (HB'.out.mono HB.out.size)⟩
      | false =>
        have HF : Hid (∀ j, (h : j < l.length) → j < k + 1 → p l[j] = false) := Lib.hid fun j h hj => by
          by_cases c : j = k
          · subst c; exact hpk
          · exact hq.out j h (by omega)
        rw [hpk] at C
        clear hpk hq
        generalize l[k] = x at *
        go_wp2_with (go_at_fn f; refine C.out.mono ?_; rintro e w' ⟨rfl, hb'⟩; have HB' := Lib.hid hb'; clear hb')
        go_roundw
        case rel => exact ⟨k + 1, by omega, by go_num, HF, K.out _ HB'.out, HB.out.trans (HB'.out.mono HB.out.size)⟩
        case measure => simp [intOf]; omega
    · have k1 : ¬ (k : Int) < (l.length : Int) := by omega
      have HF : Hid (Idx p l (-1)) := Lib.hid (.inl ⟨rfl, fun j h => hq.out j h (by omega)⟩)
      have HB := Lib.hid hb
      clear hb hq hi
      go_wp2_with fail
      go_ret
      exact ⟨_, rfl, HF.out, HB.out⟩

/-- A counted use. -/
theorem use_any (B : Nat) (v : Value) (u : Int) (w : World) (h : Blk w B 46 #[v, .int .i64 u]) (hu : 0 ≤ u ∧ u ≤ 1000000) :
    Calls Try.prog 20 #[.pointer (some ⟨B, 0, none⟩)] w fun e w' => e = .returned (.int .i64 (u + 1)) ∧ w' = w.setCell ⟨B, 1, none⟩ (.int .i64 (u + 1)) := by
  have c1 := h.cell 1
  have fz := h.frozen 1
  have hlt := h.lt
  simp only [List.getElem?_toArray, List.getElem?_cons_zero, List.getElem?_cons_succ] at c1
  have wu : IntKind.i64.wrap (u + 1) = u + 1 := IntWalk.i64_in _ (by omega)
  clear h
  go_enter Try.func20, Try.ntmps20
  go_wp2_with fail
  go_ret
  exact ⟨rfl, rfl⟩
theorem over_any (a b : Int) (w : World) : Calls Try.prog 25 #[.int .i64 a, .int .i64 b] w fun e w' => e = .returned (.bool (decide (b ≤ a))) ∧ w' = w := by
  go_enter Try.func25, Try.ntmps25
  by_cases h : b ≤ a
  · go_wp2_with fail
    go_ret
    exact ⟨ret_bool (by simp [h]), rfl⟩
  · go_wp2_with fail
    go_ret
    exact ⟨ret_bool (by simp [h]), rfl⟩
end Go.Proofs.Ytffmhejkhimkcaa
