/- Drop, Due: the walks. -/
import Derived.Test.YtffmhejkhimkcaaE1
import Derived.Test.YtffmhejkhimkcaaH
set_option linter.unusedVariables false
namespace Go.Proofs.Ytffmhejkhimkcaa
open Go.RowKit

/-- Numbers that came in. -/
def IntsAt (w : World) (A : Option Addr) (es : List Int) : Prop :=
  0 < es.length → ∃ b o, A = some ⟨b, o, none⟩ ∧ b < w.heap.size ∧ ∀ i, (h : i < es.length) → w.cell? ⟨b, o + i, none⟩ = some (.int .i64 es[i])
theorem IntsAt.below {w w' : World} {A : Option Addr} {es : List Int} (h : IntsAt w A es) (hb : Below w.heap.size w w') : IntsAt w' A es := fun hp => by
  obtain ⟨b, o, hA, hlt, hc⟩ := h hp
  exact ⟨b, o, hA, Nat.lt_of_lt_of_le hlt hb.size, fun i hi => (hb.cell (p := ⟨b, o + i, none⟩) hlt).trans (hc i hi)⟩

set_option maxHeartbeats 1000000 in
theorem idx_any (A : Option Addr) (c : Nat) (es : List Int) (x : Int) (w : World) (h : IntsAt w A es) (hn : es.length ≤ 9223372036854775807) :
    Calls Try.prog 37 #[.slice A es.length c, .int .i64 x] w fun e w' => ∃ r, e = .returned (.int .i64 r) ∧ ((r = -1 ∧ x ∉ es) ∨ (0 ≤ r ∧ x ∈ es)) ∧ w' = w := by
  have HA := Lib.hid h
  clear h
  go_enter Try.func37, Try.ntmps37
  go_wp2_with fail
  go_loopw [8] (fun q wr => ∃ k : Nat, k ≤ es.length ∧ q = .int .i64 k ∧ Hid (∀ j, (h : j < es.length) → j < k → es[j] ≠ x) ∧ wr = w) (fun q _ => es.length - (intOf q).toNat)
  case atStart => exact ⟨0, by omega, rfl, Lib.hid fun j _ h => by omega, rfl⟩
  case round =>
    obtain ⟨k, hk, rfl, hq, rfl⟩ := hrel
    by_cases hlt : k < es.length
    · obtain ⟨b, o, rfl, hb, hc⟩ := HA.out (by omega)
      have x0 := hc k hlt
      have k0 : (0 : Int) ≤ (k : Int) := by omega
      have k1 : (k : Int) < (es.length : Int) := by omega
      have hm : Hid (es[k] = x → x ∈ es) := Lib.hid fun h => h ▸ List.getElem_mem hlt
      have hne : Hid (es[k] ≠ x → ∀ j, (h : j < es.length) → j < k + 1 → es[j] ≠ x) := Lib.hid fun h j hj hjk => by
        by_cases c : j = k
        · subst c; exact h
        · exact hq.out j hj (by omega)
      clear hc hq
      generalize es[k] = y at *
      by_cases he : y = x
      · have e1 : (x == y) = true := by simp only [beq_iff_eq]; exact he.symm
        have HM := Lib.hid (hm.out he)
        clear he hm hne
        go_wp2_with fail
        go_ret
        exact ⟨_, rfl, .inr ⟨by omega, HM.out⟩, rfl⟩
      · have e1 : (x == y) = false := by simp only [beq_eq_false_iff_ne, ne_eq]; exact fun h => he h.symm
        have HN := Lib.hid (hne.out he)
        clear he hm hne
        go_wp2_with fail
        go_roundw
        case rel => exact ⟨k + 1, by omega, by go_num, HN, by trivial⟩
        case measure => simp [intOf]; omega
    · have k1 : ¬ (k : Int) < (es.length : Int) := by omega
      have HN : Hid (x ∉ es) := Lib.hid fun hx => by
        obtain ⟨j, hj, e⟩ := List.getElem_of_mem hx
        exact hq.out j hj (by omega) e
      clear hq
      go_wp2_with fail
      go_ret
      exact ⟨_, rfl, .inl ⟨rfl, HN.out⟩, rfl⟩
theorem has_any (A : Option Addr) (c : Nat) (es : List Int) (x : Int) (w : World) (h : IntsAt w A es) (hn : es.length ≤ 9223372036854775807) :
    Calls Try.prog 35 #[.slice A es.length c, .int .i64 x] w fun e w' => e = .returned (.bool (decide (x ∈ es))) ∧ w' = w := by
  have C := Lib.hid (idx_any A c es x w h hn)
  clear h
  go_enter Try.func35, Try.ntmps35
  go_wp2_with (go_at_call 37; (with_reducible refine C.out.mono ?_); rintro e w ⟨r, rfl, hr, rfl⟩)
  go_ret
  refine ⟨ret_bool ?_, rfl⟩
  rcases hr with ⟨rfl, h⟩ | ⟨h0, h⟩
  · simp [h]
  · simp [h, h0]

/-- What Drop lets go. -/
def dropP (es : List Int) (now : Int) (x : Kt) : Bool := !decide (x.entry ∈ es) || decide (x.exp ≤ now)
def DropI (B1 B2 : Nat) (A : Option Addr) (c : Nat) (es : List Int) (now : Int) (W : World) : Prop :=
  Blk W B1 38 #[.slice A es.length c] ∧ Blk W B2 3 #[.int .i64 now] ∧ IntsAt W A es
set_option maxHeartbeats 1000000 in
theorem dropP_any (B1 B2 : Nat) (A : Option Addr) (c : Nat) (es : List Int) (now : Int) (x : Kt) (W : World) (h : DropI B1 B2 A c es now W) (hn : es.length ≤ 9223372036854775807) :
    Calls Try.prog 34 #[x.agg, .pointer (some ⟨B1, 0, none⟩), .pointer (some ⟨B2, 0, none⟩)] W fun en w' => en = .returned (.bool (dropP es now x)) ∧ Below W.heap.size W w' := by
  have c0 := h.1.cell 0
  have c1 := h.2.1.cell 0
  simp only [List.getElem?_toArray, List.getElem?_cons_zero] at c0 c1
  have hlt1 := h.1.lt
  have hlt2 := h.2.1.lt
  have HC := Lib.hid (has_any A c es x.entry (W.alloc (.cells #[.int .i64 x.entry, .string x.aud, .string x.token, .int .i64 x.iat, .int .i64 x.exp, .int .i64 x.used, .string x.needs] 27)) (h.2.2.below ((Below.refl _ _).alloc (Nat.le_refl _) _)) hn)
  have HB : Hid (Below W.heap.size W (W.alloc (.cells #[.int .i64 x.entry, .string x.aud, .string x.token, .int .i64 x.iat, .int .i64 x.exp, .int .i64 x.used, .string x.needs] 27))) := Lib.hid ((Below.refl _ _).alloc (Nat.le_refl _) _)
  have DP : Hid (dropP es now x = (!decide (x.entry ∈ es) || decide (x.exp ≤ now))) := Lib.hid rfl
  generalize dropP es now x = d at *
  clear h
  by_cases hin : x.entry ∈ es
  · rw [decide_eq_true hin] at HC DP
    have DP2 : Hid (d = decide (x.exp ≤ now)) := Lib.hid (by rw [DP.out]; simp)
    clear hin DP
    go_enter Try.func34, Try.ntmps34
    go_wp2_with (first
      | (go_at_call 35; (with_reducible refine HC.out.mono ?_); rintro e w ⟨rfl, rfl⟩)
      | (go_at_call 25; refine (over_any _ _ _).mono ?_; rintro e w ⟨rfl, rfl⟩))
    go_ret
    exact ⟨ret_bool DP2.out.symm, HB.out⟩
  · rw [decide_eq_false hin] at HC DP
    have DP2 : Hid (d = true) := Lib.hid (by rw [DP.out]; simp)
    clear hin DP
    go_enter Try.func34, Try.ntmps34
    go_wp2_with (first
      | (go_at_call 35; (with_reducible refine HC.out.mono ?_); rintro e w ⟨rfl, rfl⟩)
      | (go_at_call 25; refine (over_any _ _ _).mono ?_; rintro e w ⟨rfl, rfl⟩))
    go_ret
    exact ⟨ret_bool DP2.out.symm, HB.out⟩
theorem drop_pred (B1 B2 : Nat) (A : Option Addr) (c : Nat) (es : List Int) (now : Int) (hn : es.length ≤ 9223372036854775807) : Pred (DropI B1 B2 A c es now) 34 #[.pointer (some ⟨B1, 0, none⟩), .pointer (some ⟨B2, 0, none⟩)] (dropP es now) :=
  ⟨fun W x h => dropP_any B1 B2 A c es now x W h hn, fun W W' h hb => ⟨(hb.block B1 h.1.lt).trans h.1, (hb.block B2 h.2.1.lt).trans h.2.1, h.2.2.below hb⟩, enters_of Try.func34 (by kernel_rfl) rfl⟩

theorem IntsAt.setCells {A : Option Addr} {es : List Int} {g : Nat} (hA : 0 < es.length → ∀ b o, A = some ⟨b, o, none⟩ → b ≠ g) {w : World} (vs : List Value) (o : Nat) (h : IntsAt w A es) : IntsAt (w.setCells g o vs) A es := fun hp => by
  obtain ⟨b, o', rfl, hlt, hc⟩ := h hp
  have ho : Only (fun k => k = g) w (w.setCells g o vs) := Only.setCells (F := fun k => k = g) (.inl rfl) vs o w (Only.refl _ _)
  exact ⟨b, o', rfl, Nat.lt_of_lt_of_le hlt ho.size, fun i hi => ho.cell (hc i hi) (hA hp b o' rfl)⟩

set_option maxRecDepth 100000 in
set_option maxHeartbeats 4000000 in
theorem drop_any (base g : Nat) (v : Value) (l : List Kt) (u : Int) (A : Option Addr) (c : Nat) (es : List Int) (now : Int) (w : World) (h : CacheAt w 46 base g v l u) (hl : l.length ≤ 1000) (hE : IntsAt w A es) (hn : es.length ≤ 9223372036854775807) (hA : 0 < es.length → ∀ b o, A = some ⟨b, o, none⟩ → b < base) :
    Calls Try.prog 27 #[.pointer (some ⟨g, 0, none⟩), .slice A es.length c, .int .i64 now] w fun e w' => e = .returned (.tuple #[]) ∧ ∃ v', St w 46 base g v v' (keptOf (dropP es now) l) u w' := by
  have hg := h.blk.cell 0
  simp only [List.getElem?_toArray, List.getElem?_cons_zero] at hg
  have hlt := h.blk.lt
  have hb2 : Below w.heap.size w ((w.alloc (.cells #[.slice A es.length c] 38)).alloc (.cells #[.int .i64 now] 3)) := ((Below.refl _ _).alloc (Nat.le_refl _) _).alloc (by rw [World.size_alloc]; omega) _
  have hI : DropI w.heap.size (w.heap.size + 1) A c es now ((w.alloc (.cells #[.slice A es.length c] 38)).alloc (.cells #[.int .i64 now] 3)) := by
    refine ⟨(Blk.new w 38 _).alloc _, ?_, hE.below hb2⟩
    have := Blk.new (w.alloc (.cells #[.slice A es.length c] 38)) 3 #[.int .i64 now]
    rw [World.size_alloc] at this
    exact this
  have S1 := Lib.hid ((St.refl h).below hb2)
  have hne1 : ∀ k, v.ownBlock = some k → base ≤ k ∧ k < w.heap.size := fun k hk => own_lt h.own hk
  have DC := Lib.hid (delete_any _ 34 _ _ (drop_pred w.heap.size (w.heap.size + 1) A c es now hn) base v l _ hI (by omega) S1.out.at_.own (fun W gg o vs hv hW => ⟨Blk.setCells_far (by have := hne1 gg hv; omega) vs o W hW.1, Blk.setCells_far (by have := hne1 gg hv; omega) vs o W hW.2.1, hW.2.2.setCells (fun hp b o' hb => by have := hA hp b o' hb; have := hne1 gg hv; omega) vs o⟩))
  have FG : Hid (∀ w2, Only (fun k => v.ownBlock = some k) ((w.alloc (.cells #[.slice A es.length c] 38)).alloc (.cells #[.int .i64 now] 3)) w2 → w2.cell? ⟨g, 0, none⟩ = some v ∧ w2.frozen? ⟨g, 0, none⟩ = false) := Lib.hid fun w2 ho => by
    have b := S1.out.at_.blk.only ho (S1.out.ne (by decide))
    exact ⟨b.cell 0, b.frozen 0⟩
  clear h hE hb2 hI hne1
  go_enter Try.func27, Try.ntmps27
  go_wp2_with (go_at_call 18; (with_reducible refine DC.out.mono ?_); rintro e w2 ⟨v1, rfl, s1, s2, s3⟩; obtain ⟨A1, c1, rfl⟩ := own_shape s1; have d1 := (FG.out _ s2).1; have d2 := (FG.out _ s2).2; have T1 := Lib.hid s1; have T2 := Lib.hid s2; have T3 := Lib.hid s3; clear s1 s2 s3)
  go_end0
  exact ⟨rfl, _, S1.out.store (by decide) T1.out T2.out (fun k hk => .inl (T3.out k hk))⟩
end Go.Proofs.Ytffmhejkhimkcaa
