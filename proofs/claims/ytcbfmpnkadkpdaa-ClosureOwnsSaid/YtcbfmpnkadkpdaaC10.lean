/- Texts: Has, Within, Same of the document, and of the library and the program: the walks. -/
import Derived.Test.YtcbfmpnkadkpdaaC9
set_option linter.unusedVariables false
namespace Go.Proofs.Ytcbfmpnkadkpdaa
open Go.RowKit

def hasS (ss : List ByteArray) (s : ByteArray) : Bool := ss.any fun x => decide (x = s)
def withinS (a b : List ByteArray) : Bool := a.all (hasS b)
theorem hasS_of {ss : List ByteArray} {s : ByteArray} {k : Nat} (h : k < ss.length) (e : ss[k] = s) : hasS ss s = true := List.any_eq_true.2 ⟨_, List.getElem_mem h, decide_eq_true e⟩
theorem hasS_not {ss : List ByteArray} {s : ByteArray} (h : ∀ j, (hj : j < ss.length) → ss[j] ≠ s) : hasS ss s = false := List.any_eq_false.2 fun x hx hd => by
  obtain ⟨j, hj, e⟩ := List.getElem_of_mem hx
  exact h j hj (e.trans (of_decide_eq_true hd))
theorem withinS_not {a b : List ByteArray} {k : Nat} (h : k < a.length) (e : hasS b a[k] = false) : withinS a b = false := by
  unfold withinS
  rw [List.all_eq_false]
  exact ⟨_, List.getElem_mem h, by rw [e]; decide⟩
theorem withinS_all {a b : List ByteArray} (h : ∀ j, (hj : j < a.length) → hasS b a[j] = true) : withinS a b = true := by
  unfold withinS
  rw [List.all_eq_true]
  intro x hx
  obtain ⟨j, hj, e⟩ := List.getElem_of_mem hx
  rw [← e]
  exact h j hj
theorem teq_true {a b : ByteArray} (h : a = b) : (a.toList == b.toList) = true := by rw [h]; exact beq_self_eq_true _
theorem teq_false {a b : ByteArray} (h : a ≠ b) : (a.toList == b.toList) = false := by rw [beq_eq_false_iff_ne, ne_eq, toList_eq_iff]; exact h

set_option maxHeartbeats 1000000 in
theorem has_any (A : Option Addr) (c : Nat) (ss : List ByteArray) (s : ByteArray) (w : World) (h : StrsAt w A ss) (hn : ss.length * 16 ≤ 140737488355328) :
    Calls Try.prog 35 #[.slice A ss.length c, .string s] w fun e w' => e = .returned (.bool (hasS ss s)) ∧ w' = w := by
  have H := Lib.hid h
  clear h
  go_enter Try.func35, Try.ntmps35
  go_wp2_with fail
  go_loopw [5] (fun q wr => ∃ k : Nat, k ≤ ss.length ∧ q = .int .i64 k ∧ Hid (∀ j, (hj : j < ss.length) → j < k → ss[j] ≠ s) ∧ wr = w) (fun q _ => ss.length - (intOf q).toNat)
  case atStart => exact ⟨0, by omega, rfl, Lib.hid fun j _ h => by omega, rfl⟩
  case round =>
    obtain ⟨k, hk, rfl, hq, rfl⟩ := hrel
    by_cases hlt : k < ss.length
    · obtain ⟨b, o, rfl, hbl, hce⟩ := H.out (by omega)
      have z := hce k hlt
      have k0 : (0 : Int) ≤ (k : Int) := by omega
      have k1 : (k : Int) < (ss.length : Int) := by omega
      clear hce
      by_cases he : ss[k] = s
      · have HF := Lib.hid (hasS_of hlt he)
        have e1 := teq_true he
        clear he hq
        generalize ss[k] = x at *
        go_wp2_with fail
        go_ret
        exact ⟨ret_bool HF.out.symm, rfl⟩
      · have HF : Hid (∀ j, (hj : j < ss.length) → j < k + 1 → ss[j] ≠ s) := Lib.hid fun j h hj => by
          by_cases c : j = k
          · subst c; exact he
          · exact hq.out j h (by omega)
        have e1 := teq_false he
        clear he hq
        generalize ss[k] = x at *
        go_wp2_with fail
        go_roundw
        case rel => exact ⟨k + 1, by omega, by go_num, HF, trivial⟩
        case measure => simp [intOf]; omega
    · have k1 : ¬ (k : Int) < (ss.length : Int) := by omega
      have HF := Lib.hid (hasS_not (ss := ss) (s := s) fun j hj => hq.out j hj (by omega))
      clear hq
      go_wp2_with fail
      go_ret
      exact ⟨ret_bool HF.out.symm, rfl⟩

set_option maxHeartbeats 1000000 in
theorem index_s (A : Option Addr) (c : Nat) (ss : List ByteArray) (s : ByteArray) (w : World) (h : StrsAt w A ss) (hn : ss.length * 16 ≤ 140737488355328) :
    Calls Try.prog 37 #[.slice A ss.length c, .string s] w fun e w' => ∃ r : Int, e = .returned (.int .i64 r) ∧ hasS ss s = decide (0 ≤ r) ∧ w' = w := by
  have H := Lib.hid h
  clear h
  go_enter Try.func37, Try.ntmps37
  go_wp2_with fail
  go_loopw [5, 8] (fun _ q wr => ∃ k : Nat, k ≤ ss.length ∧ q = .int .i64 k ∧ Hid (∀ j, (hj : j < ss.length) → j < k → ss[j] ≠ s) ∧ wr = w) (fun _ q _ => ss.length - (intOf q).toNat)
  case atStart => exact ⟨0, by omega, rfl, Lib.hid fun j _ h => by omega, rfl⟩
  case round =>
    obtain ⟨k, hk, rfl, hq, rfl⟩ := hrel
    by_cases hlt : k < ss.length
    · obtain ⟨b, o, rfl, hbl, hce⟩ := H.out (by omega)
      have z := hce k hlt
      have k0 : (0 : Int) ≤ (k : Int) := by omega
      have k1 : (k : Int) < (ss.length : Int) := by omega
      clear hce
      by_cases he : ss[k] = s
      · have HF := Lib.hid (hasS_of hlt he)
        have e1 := teq_true he.symm
        clear he hq
        generalize ss[k] = x at *
        go_wp2_with fail
        go_ret
        exact ⟨_, rfl, by rw [HF.out, decide_eq_true (by omega)], rfl⟩
      · have HF : Hid (∀ j, (hj : j < ss.length) → j < k + 1 → ss[j] ≠ s) := Lib.hid fun j h hj => by
          by_cases c : j = k
          · subst c; exact he
          · exact hq.out j h (by omega)
        have e1 := teq_false (Ne.symm he)
        clear he hq
        generalize ss[k] = x at *
        go_wp2_with fail
        go_roundw
        case rel => exact ⟨k + 1, by omega, by go_num, HF, trivial⟩
        case measure => simp [intOf]; omega
    · have k1 : ¬ (k : Int) < (ss.length : Int) := by omega
      have HF := Lib.hid (hasS_not (ss := ss) (s := s) fun j hj => hq.out j hj (by omega))
      clear hq
      go_wp2_with fail
      go_ret
      exact ⟨_, rfl, by rw [HF.out]; rfl, rfl⟩
theorem contains_any (A : Option Addr) (c : Nat) (ss : List ByteArray) (s : ByteArray) (w : World) (h : StrsAt w A ss) (hn : ss.length * 16 ≤ 140737488355328) :
    Calls Try.prog 34 #[.slice A ss.length c, .string s] w fun e w' => e = .returned (.bool (hasS ss s)) ∧ w' = w := by
  have C := Lib.hid (index_s A c ss s w h hn)
  clear h
  go_enter Try.func34, Try.ntmps34
  go_wp2_with (go_at_call 37; (with_reducible refine C.out.mono ?_); rintro e w1 ⟨r, rfl, hr, rfl⟩; have HR := Lib.hid hr; clear hr)
  go_ret
  exact ⟨ret_bool HR.out.symm, rfl⟩
theorem notHas_any (B : Nat) (A : Option Addr) (c : Nat) (ss : List ByteArray) (s : ByteArray) (w : World) (hB : Blk w B 26 #[.slice A ss.length c]) (h : StrsAt w A ss) (hn : ss.length * 16 ≤ 140737488355328) :
    Calls Try.prog 33 #[.string s, .pointer (some ⟨B, 0, none⟩)] w fun e w' => e = .returned (.bool (!hasS ss s)) ∧ w' = w := by
  have C := Lib.hid (contains_any A c ss s w h hn)
  have c0 := hB.cell 0
  simp only [List.getElem?_toArray, List.getElem?_cons_zero] at c0
  have hlt := hB.lt
  clear h hB
  go_enter Try.func33, Try.ntmps33
  go_wp2_with (go_at_call 34; (with_reducible refine C.out.mono ?_); rintro e w1 ⟨rfl, rfl⟩)
  go_ret
  exact ⟨rfl, rfl⟩

set_option maxHeartbeats 1000000 in
theorem index_f (B : Nat) (A : Option Addr) (c : Nat) (bb : List ByteArray) (A1 : Option Addr) (c1 : Nat) (ss : List ByteArray) (w : World) (hB : Blk w B 26 #[.slice A bb.length c]) (h : StrsAt w A bb) (hn : bb.length * 16 ≤ 140737488355328) (h1 : StrsAt w A1 ss) (hn1 : ss.length * 16 ≤ 140737488355328) :
    Calls Try.prog 36 #[.slice A1 ss.length c1, .func (.func 33) #[] #[.pointer (some ⟨B, 0, none⟩)]] w fun e w' => ∃ r : Int, e = .returned (.int .i64 r) ∧ withinS ss bb = !decide (0 ≤ r) ∧ w' = w := by
  have H := Lib.hid h1
  have CC := Lib.hid (fun s => notHas_any B A c bb s w hB h hn)
  have eg : ∀ args w, (callFunc 33 args).run Try.prog w = .ok (.enter 33 args) w := enters_of Try.func33 (by kernel_rfl) rfl
  clear h hB h1
  go_enter Try.func36, Try.ntmps36
  go_wp2_with fail
  go_loopw [5, 8] (fun _ q wr => ∃ k : Nat, k ≤ ss.length ∧ q = .int .i64 k ∧ Hid (∀ j, (hj : j < ss.length) → j < k → hasS bb ss[j] = true) ∧ wr = w) (fun _ q _ => ss.length - (intOf q).toNat)
  case atStart => exact ⟨0, by omega, rfl, Lib.hid fun j _ h => by omega, rfl⟩
  case round =>
    obtain ⟨k, hk, rfl, hq, rfl⟩ := hrel
    by_cases hlt : k < ss.length
    · obtain ⟨b, o, rfl, hbl, hce⟩ := H.out (by omega)
      have z := hce k hlt
      have k0 : (0 : Int) ≤ (k : Int) := by omega
      have k1 : (k : Int) < (ss.length : Int) := by omega
      have C := Lib.hid (CC.out ss[k])
      clear hce
      cases he : hasS bb ss[k] with
      | false =>
        have HF := Lib.hid (withinS_not hlt he)
        rw [he] at C
        clear he hq
        generalize ss[k] = x at *
        go_wp2_with (go_at_fn 33; (with_reducible refine C.out.mono ?_); rintro e w1 ⟨rfl, rfl⟩)
        go_ret
        exact ⟨_, rfl, by rw [HF.out, decide_eq_true (by omega)]; rfl, rfl⟩
      | true =>
        have HF : Hid (∀ j, (hj : j < ss.length) → j < k + 1 → hasS bb ss[j] = true) := Lib.hid fun j h hj => by
          by_cases c : j = k
          · subst c; exact he
          · exact hq.out j h (by omega)
        rw [he] at C
        clear he hq
        generalize ss[k] = x at *
        go_wp2_with (go_at_fn 33; (with_reducible refine C.out.mono ?_); rintro e w1 ⟨rfl, rfl⟩)
        go_roundw
        case rel => exact ⟨k + 1, by omega, by go_num, HF, trivial⟩
        case measure => simp [intOf]; omega
    · have k1 : ¬ (k : Int) < (ss.length : Int) := by omega
      have HF := Lib.hid (withinS_all (a := ss) (b := bb) fun j hj => hq.out j hj (by omega))
      clear hq
      go_wp2_with fail
      go_ret
      exact ⟨_, rfl, by rw [HF.out]; rfl, rfl⟩
theorem containsF_any (B : Nat) (A : Option Addr) (c : Nat) (bb : List ByteArray) (A1 : Option Addr) (c1 : Nat) (ss : List ByteArray) (w : World) (hB : Blk w B 26 #[.slice A bb.length c]) (h : StrsAt w A bb) (hn : bb.length * 16 ≤ 140737488355328) (h1 : StrsAt w A1 ss) (hn1 : ss.length * 16 ≤ 140737488355328) :
    Calls Try.prog 32 #[.slice A1 ss.length c1, .func (.func 33) #[] #[.pointer (some ⟨B, 0, none⟩)]] w fun e w' => e = .returned (.bool (!withinS ss bb)) ∧ w' = w := by
  have C := Lib.hid (index_f B A c bb A1 c1 ss w hB h hn h1 hn1)
  clear h hB h1
  go_enter Try.func32, Try.ntmps32
  go_wp2_with (go_at_call 36; (with_reducible refine C.out.mono ?_); rintro e w1 ⟨r, rfl, hr, rfl⟩; have HR := Lib.hid hr; clear hr)
  go_ret
  exact ⟨ret_bool (by rw [HR.out, Bool.not_not]), rfl⟩
theorem within_any (A : Option Addr) (c : Nat) (bb : List ByteArray) (A1 : Option Addr) (c1 : Nat) (ss : List ByteArray) (w : World) (h : StrsAt w A bb) (hn : bb.length * 16 ≤ 140737488355328) (h1 : StrsAt w A1 ss) (hn1 : ss.length * 16 ≤ 140737488355328) :
    Calls Try.prog 29 #[.slice A1 ss.length c1, .slice A bb.length c] w fun e w' => e = .returned (.bool (withinS ss bb)) ∧ Below w.heap.size w w' := by
  have C := Lib.hid (containsF_any w.heap.size A c bb A1 c1 ss (w.alloc (.cells #[.slice A bb.length c] 26)) (Blk.new w 26 _) (h.below ((Below.refl _ _).alloc (Nat.le_refl _) _)) hn (h1.below ((Below.refl _ _).alloc (Nat.le_refl _) _)) hn1)
  clear h h1
  go_enter Try.func29, Try.ntmps29
  go_wp2_with (go_at_call 32; (with_reducible refine C.out.mono ?_); rintro e w1 ⟨rfl, rfl⟩)
  go_ret
  exact ⟨ret_bool rfl, (Below.refl _ _).alloc (Nat.le_refl _) _⟩

set_option maxHeartbeats 1000000 in
theorem within09_any (A : Option Addr) (c : Nat) (bb : List ByteArray) (A1 : Option Addr) (c1 : Nat) (ss : List ByteArray) (w : World) (h : StrsAt w A bb) (hn : bb.length * 16 ≤ 140737488355328) (h1 : StrsAt w A1 ss) (hn1 : ss.length * 16 ≤ 140737488355328) :
    Calls Try.prog 30 #[.slice A1 ss.length c1, .slice A bb.length c] w fun e w' => e = .returned (.bool (withinS ss bb)) ∧ w' = w := by
  have H := Lib.hid h1
  have CC := Lib.hid (fun s => has_any A c bb s w h hn)
  clear h h1
  go_enter Try.func30, Try.ntmps30
  go_wp2_with fail
  go_loopw [5, 6] (fun q _ wr => ∃ k : Nat, k ≤ ss.length ∧ q = .int .i64 k ∧ Hid (∀ j, (hj : j < ss.length) → j < k → hasS bb ss[j] = true) ∧ wr = w) (fun q _ _ => ss.length - (intOf q).toNat)
  case atStart => exact ⟨0, by omega, rfl, Lib.hid fun j _ h => by omega, rfl⟩
  case round =>
    obtain ⟨k, hk, rfl, hq, rfl⟩ := hrel
    by_cases hlt : k < ss.length
    · obtain ⟨b, o, rfl, hbl, hce⟩ := H.out (by omega)
      have z := hce k hlt
      have k0 : (0 : Int) ≤ (k : Int) := by omega
      have k1 : (k : Int) < (ss.length : Int) := by omega
      have C := Lib.hid (CC.out ss[k])
      clear hce
      cases he : hasS bb ss[k] with
      | false =>
        have HF := Lib.hid (withinS_not hlt he)
        rw [he] at C
        clear he hq
        generalize ss[k] = x at *
        go_wp2_with (go_at_call 35; (with_reducible refine C.out.mono ?_); rintro e w1 ⟨rfl, rfl⟩)
        go_ret
        exact ⟨ret_bool HF.out.symm, rfl⟩
      | true =>
        have HF : Hid (∀ j, (hj : j < ss.length) → j < k + 1 → hasS bb ss[j] = true) := Lib.hid fun j h hj => by
          by_cases c : j = k
          · subst c; exact he
          · exact hq.out j h (by omega)
        rw [he] at C
        clear he hq
        generalize ss[k] = x at *
        go_wp2_with (go_at_call 35; (with_reducible refine C.out.mono ?_); rintro e w1 ⟨rfl, rfl⟩)
        go_roundw
        case rel => exact ⟨k + 1, by omega, by go_num, HF, trivial⟩
        case measure => simp [intOf]; omega
    · have k1 : ¬ (k : Int) < (ss.length : Int) := by omega
      have HF := Lib.hid (withinS_all (a := ss) (b := bb) fun j hj => hq.out j hj (by omega))
      clear hq
      go_wp2_with fail
      go_ret
      exact ⟨ret_bool HF.out.symm, rfl⟩
end Go.Proofs.Ytcbfmpnkadkpdaa
