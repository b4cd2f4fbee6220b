/- The net's example; a net that a call has made. -/
import Derived.Test.YtnccgbcmencncaaN7
namespace Go.Proofs.Ytnccgbcmencncaa
open Go.RowKit

/-- Since w0 nothing has turned but new blocks, the first of which is a net of the packets l. -/
def Lives (w0 w : World) (l : List Pk) : Prop := Below w0.heap.size w0 w ∧ ∃ v, NetAt w 48 w0.heap.size w0.heap.size v l

theorem lives_step {w0 w w' : World} {v v' : Value} {l l' : List Pk} (h : Below w0.heap.size w0 w) (n : NetAt w 48 w0.heap.size w0.heap.size v l) (n' : NetAt w' 48 w0.heap.size w0.heap.size v' l') (o : Only (foot w0.heap.size v) w w') : Lives w0 w' l' := by
  refine ⟨h.trans (o.below h.size ?_), v', n'⟩
  rintro k hk (e | e)
  · omega
  · have := (n.own.lt k e).1; omega
theorem lives_below {w0 w w' : World} {l : List Pk} (h : Lives w0 w l) (hb : Below w.heap.size w w') : Lives w0 w' l := by
  obtain ⟨h, v, n⟩ := h
  exact ⟨h.trans (hb.mono h.size), v, n.only (F := fun _ => False) (Only.of_below hb) fun _ _ x => x⟩
theorem lives_drewN {w0 w : World} {l : List Pk} (h : Lives w0 w l) (n : Nat) : Lives w0 (w.drewN n) l := lives_below h (below_drewN (Below.refl _ _) n)

theorem new_lives (w : World) : Calls Try.prog 7 #[] w fun e w' => e = .returned (.pointer (some ⟨w.heap.size, 0, none⟩)) ∧ Lives w w' [] :=
  (new_any w).mono fun _ _ ⟨he, n, b⟩ => ⟨he, b, _, n⟩
theorem put_lives {w0 w : World} {l : List Pk} (p : Pk) (h : Lives w0 w l) : Calls Try.prog 8 #[.pointer (some ⟨w0.heap.size, 0, none⟩), p.agg] w fun e w' => e = .returned (.int .i64 (putCode l.length)) ∧ Lives w0 w' (putList l p) := by
  obtain ⟨h, v, n⟩ := h
  exact (put_any _ _ v l p w n h.size).mono fun _ _ ⟨he, v', n', o, _⟩ => ⟨he, lives_step h n n' o⟩
theorem take_lives_none {w0 w : World} (k : Int) (h : Lives w0 w []) : Calls Try.prog 14 #[.pointer (some ⟨w0.heap.size, 0, none⟩), .int .i64 k] w fun e w' => e = .returned (.tuple #[.agg #[.int .i64 0, .int .i64 0, .string ⟨#[]⟩], .bool false]) ∧ Lives w0 w' [] := by
  obtain ⟨h, v, n⟩ := h
  exact (take_none _ _ v k w n).mono fun _ _ ⟨he, b⟩ => ⟨he, lives_below ⟨h, v, n⟩ b⟩
theorem take_lives {w0 w : World} {l : List Pk} (k : Int) (p : Pk) (h : Lives w0 w l) (hl : 0 < l.length) (hl2 : l.length ≤ 60) (hk : I64 k) (hp : l[place k l.length]? = some p) :
    Calls Try.prog 14 #[.pointer (some ⟨w0.heap.size, 0, none⟩), .int .i64 k] w fun e w' => e = .returned (.tuple #[p.agg, .bool true]) ∧ Lives w0 w' (l.eraseIdx (place k l.length)) := by
  obtain ⟨h, v, n⟩ := h
  have hp' := (List.getElem?_eq_some_iff.1 hp).2
  have := take_some _ _ v k l w n hl hl2 hk
  rw [hp'] at this
  exact this.mono fun _ _ ⟨he, v', n', o, _⟩ => ⟨he, lives_step h n n' o⟩
theorem copy_lives_none {w0 w : World} (k : Int) (h : Lives w0 w []) : Calls Try.prog 15 #[.pointer (some ⟨w0.heap.size, 0, none⟩), .int .i64 k] w fun e w' => e = .returned (.int .i64 7) ∧ Lives w0 w' [] := by
  obtain ⟨h, v, n⟩ := h
  exact (copy_none _ _ v k w n).mono fun _ _ ⟨he, b⟩ => ⟨he, lives_below ⟨h, v, n⟩ b⟩
theorem copy_lives {w0 w : World} {l : List Pk} (k : Int) (p : Pk) (h : Lives w0 w l) (hl : 0 < l.length) (hl2 : l.length ≤ 60) (hk : I64 k) (hp : l[place k l.length]? = some p) :
    Calls Try.prog 15 #[.pointer (some ⟨w0.heap.size, 0, none⟩), .int .i64 k] w fun e w' => e = .returned (.int .i64 (putCode l.length)) ∧ Lives w0 w' (putList l p) := by
  obtain ⟨h, v, n⟩ := h
  exact (copy_some _ _ v k l p w n hl hl2 hk hp h.size).mono fun _ _ ⟨he, v', n', o, _⟩ => ⟨he, lives_step h n n' o⟩
theorem all_lives {w0 w : World} {l : List Pk} (h : Lives w0 w l) (hl : l.length ≤ 1000) : Calls Try.prog 9 #[.pointer (some ⟨w0.heap.size, 0, none⟩)] w fun e w' => ∃ A c, e = .returned (.slice A l.length c) ∧ w'.ownsRow w.heap.size 28 3 (.slice A l.length c) l.length (pks l) ∧ Lives w0 w' l ∧ Below w.heap.size w w' := by
  obtain ⟨h, v, n⟩ := h
  refine (all_any _ _ v l w n hl).mono fun _ _ ⟨v', he, ho, hb⟩ => ?_
  obtain ⟨A, c, rfl⟩ : ∃ A c, v' = .slice A l.length c := by
    rcases ho.2 with ⟨rfl, h0⟩ | ⟨g, cap, cur, rfl, _⟩
    · rw [h0]; exact ⟨_, _, rfl⟩
    · exact ⟨_, _, rfl⟩
  exact ⟨A, c, he, ho, lives_below ⟨h, v, n⟩ hb, hb⟩

def pkA : Pk := ⟨0, 0, ⟨#[97]⟩⟩
def pkB : Pk := ⟨0, 0, ⟨#[98]⟩⟩

set_option maxHeartbeats 1000000 in
theorem lives_any (w : World) : Calls Try.prog 10 #[] w fun e w' => e = .returned (.bool true) ∧ Below w.heap.size w w' := by
  go_enter Try.func10, Try.ntmps10
  go_wp2_with fail
  refine (new_lives _).mono ?_
  rintro e w1 ⟨rfl, n1⟩
  have N1 := Lib.hid n1
  clear n1
  go_wp2_with fail
  refine (put_lives pkA N1.out).mono ?_
  rintro e w2 ⟨rfl, n2⟩
  have N2 := Lib.hid n2
  clear n2
  go_wp2_with fail
  refine (put_lives pkB N2.out).mono ?_
  rintro e w3 ⟨rfl, n3⟩
  have N3 := Lib.hid n3
  clear n3
  go_wp2_with fail
  have t4 : Calls Try.prog 14 #[.pointer (some ⟨w.heap.size, 0, none⟩), .int .i64 3] w3 fun e w' => e = .returned (.tuple #[.agg #[.int .i64 0, .int .i64 0, .string ⟨#[98]⟩], .bool true]) ∧ Lives w w' [pkA] :=
    take_lives 3 pkB N3.out (by decide) (by decide) ⟨by decide, by decide⟩ rfl
  refine t4.mono ?_
  clear t4
  rintro e w4 ⟨rfl, n4⟩
  have N4 := Lib.hid n4
  clear n4
  have d1 : (([98] : List UInt8) == [98]) = true := by decide
  go_wp2_with fail
  refine (all_lives (lives_below N4.out ((Below.refl _ _).alloc (Nat.le_refl _) _)) (by decide)).mono ?_
  rintro e w5 ⟨A, c, rfl, _, n5, _⟩
  have N5 := Lib.hid n5
  clear n5
  go_wp2_with fail
  go_ret
  exact ⟨rfl, N5.out.1⟩
end Go.Proofs.Ytnccgbcmencncaa
