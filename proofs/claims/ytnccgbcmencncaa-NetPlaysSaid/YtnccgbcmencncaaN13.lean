/- A deed of both nets: the walk. -/
import Derived.Test.YtnccgbcmencncaaN12
namespace Go.Proofs.Ytnccgbcmencncaa
open Go.RowKit

theorem putList_60 {l : List Pk} (p : Pk) (h : l.length ≤ 60) : (putList l p).length ≤ 60 := by have := putList_len l p; omega
theorem copyList_60 {l : List Pk} (k : Int) (h : l.length ≤ 60) : (copyList l k).length ≤ 60 := by
  unfold copyList
  split
  · exact putList_60 _ h
  · exact h
theorem takeList_60 {l : List Pk} (k : Int) (h : l.length ≤ 60) : (takeList l k).length ≤ 60 := by
  unfold takeList
  rw [List.length_eraseIdx]
  split <;> omega

theorem two_takeR_new {w0 w : World} {g h : Nat} {l m : List Pk} (k : Int) (t : Two w0 g h w l m) (hl : m.length ≤ 60) (hk : I64 k) (t0 : TypeId) (cs : Array Value) :
    Calls Try.prog 18 #[.pointer (some ⟨h, 0, none⟩), .int .i64 k] (w.alloc (.cells cs t0)) fun e w' => e = .returned (takeVal m k) ∧ Two w0 g h w' l (takeList m k) ∧ Blk w' w.heap.size t0 cs ∧ w.heap.size < w'.heap.size := by
  have hnew := Blk.new w t0 cs
  by_cases h0 : m.length = 0
  · have hn := nil_of h0
    subst hn
    have t' := two_below t ((Below.refl _ _).alloc (Nat.le_refl _) (.cells cs t0))
    obtain ⟨b, v, u, n, r, s⟩ := t'
    refine (refTake_none _ _ u k _ r).mono fun _ w' ⟨he, hb⟩ => ⟨he, two_below ⟨b, v, u, n, r, s⟩ hb, ?_, ?_⟩
    · exact hnew.only (F := fun _ => False) (Only.of_below hb) id
    · have := hb.size; simp at this; omega
  · obtain ⟨b, v, u, n, r, s⟩ := t
    have hp := List.getElem?_eq_getElem (place_lt k m.length (by omega))
    have e2 : takeVal m k = .tuple #[(m[place k m.length]'(place_lt k _ (by omega))).agg, .bool true] := by unfold takeVal; rw [hp]; rfl
    rw [e2]
    have b' := b.alloc b.size (.cells cs t0)
    refine (refTake_some _ _ u k m _ _ (r.alloc _) (by omega) hl hk hp b'.size).mono fun _ w' ⟨he, v', n', o, f⟩ => ⟨he, (two_r b' (n.alloc _) (r.alloc _) s n' o f).1, ?_, ?_⟩
    · exact hnew.only o (fun e => by have := (foot_lt r _ e).2; omega)
    · have := o.size; simp at this; omega

def DoesPost (w0 : World) (g h : Nat) (e : Ending) (w' : World) : Prop := e = .returned (.bool true) ∧ ∃ L, Two w0 g h w' L L ∧ L.length ≤ 60

set_option maxRecDepth 100000 in
set_option maxHeartbeats 4000000 in
theorem does_put (w0 w : World) (g h : Nat) (L : List Pk) (d : Dd) (t : Two w0 g h w L L) (hL : L.length ≤ 60) (hk : I64 d.k) (hd : d.kind = 0) :
    Calls Try.prog 11 #[.pointer (some ⟨g, 0, none⟩), .pointer (some ⟨h, 0, none⟩), .agg #[.int .i64 d.kind, .int .i64 d.k, .int .i64 d.p.src, .int .i64 d.p.dst, .string d.p.data]] w (DoesPost w0 g h) := by
  obtain ⟨w1, hw1⟩ : ∃ w1, w1 = w.alloc (Obj.cells #[.int .i64 d.kind, .int .i64 d.k, .int .i64 d.p.src, .int .i64 d.p.dst, .string d.p.data] 38) := ⟨_, rfl⟩
  have t1 : Two w0 g h w1 L L := by rw [hw1]; exact two_below t ((Below.refl _ _).alloc (Nat.le_refl _) _)
  have td := two_drew t1
  have hb : Hid (Blk w1 w.heap.size 38 #[.int .i64 d.kind, .int .i64 d.k, .int .i64 d.p.src, .int .i64 d.p.dst, .string d.p.data]) := by rw [hw1]; exact Blk.new _ _ _
  have hsw : w.heap.size < w1.heap.size := by rw [hw1]; simp
  have HW := Lib.hid hw1
  have HK := Lib.hid hk
  clear hw1 t hk
  obtain ⟨c0, c1, c2, c3, c4⟩ := cells_of_blk5 hb.out
  rw [hd] at c0
  have kd : (d.kind == 0) = true := by simp [hd]
  clear hd
  go_enter Try.func11, Try.ntmps11
  go_wp2_with fail
  rw [← HW.out]
  go_region_with (first | (go_at_call 8; refine (two_putN d.p (by assumption)).mono ?_; rintro e w5 ⟨rfl, f5, k5⟩; have HB5 : Hid (Blk w5 w.heap.size 38 #[.int .i64 d.kind, .int .i64 d.k, .int .i64 d.p.src, .int .i64 d.p.dst, .string d.p.data]) := k5.2 _ _ (by first | exact hb.out | exact HB6.out); obtain ⟨s0, s1, s2, s3, s4⟩ := cells_of_blk5 HB5.out; have g5 := two_drew f5; clear k5) | (go_at_call 17; refine (two_putR d.p (by assumption) hL).mono ?_; rintro e w6 ⟨rfl, f6, k6⟩; have HB6 : Hid (Blk w6 w.heap.size 38 #[.int .i64 d.kind, .int .i64 d.k, .int .i64 d.p.src, .int .i64 d.p.dst, .string d.p.data]) := k6.2 _ _ (by first | exact hb.out | exact HB5.out); obtain ⟨r0, r1, r2, r3, r4⟩ := cells_of_blk5 HB6.out; have g6 := two_drew f6; clear k6))
  all_goals
    go_wp2_with fail
    refine bodyPost_ret (v := .bool true) (by simp [results, Try.results11, Act.put]) rfl ⟨rfl, _, by first | exact f6 | exact f5 | exact g6 | exact g5, putList_60 _ hL⟩

set_option maxRecDepth 100000 in
set_option maxHeartbeats 4000000 in
theorem does_copy (w0 w : World) (g h : Nat) (L : List Pk) (d : Dd) (t : Two w0 g h w L L) (hL : L.length ≤ 60) (hk : I64 d.k) (hd : d.kind = 2) :
    Calls Try.prog 11 #[.pointer (some ⟨g, 0, none⟩), .pointer (some ⟨h, 0, none⟩), .agg #[.int .i64 d.kind, .int .i64 d.k, .int .i64 d.p.src, .int .i64 d.p.dst, .string d.p.data]] w (DoesPost w0 g h) := by
  obtain ⟨w1, hw1⟩ : ∃ w1, w1 = w.alloc (Obj.cells #[.int .i64 d.kind, .int .i64 d.k, .int .i64 d.p.src, .int .i64 d.p.dst, .string d.p.data] 38) := ⟨_, rfl⟩
  have t1 : Two w0 g h w1 L L := by rw [hw1]; exact two_below t ((Below.refl _ _).alloc (Nat.le_refl _) _)
  have td := two_drew t1
  have hb : Hid (Blk w1 w.heap.size 38 #[.int .i64 d.kind, .int .i64 d.k, .int .i64 d.p.src, .int .i64 d.p.dst, .string d.p.data]) := by rw [hw1]; exact Blk.new _ _ _
  have hsw : w.heap.size < w1.heap.size := by rw [hw1]; simp
  have HW := Lib.hid hw1
  have HK := Lib.hid hk
  clear hw1 t hk
  obtain ⟨c0, c1, c2, c3, c4⟩ := cells_of_blk5 hb.out
  rw [hd] at c0
  have kd : (d.kind == 0) = false := by simp [hd]
  have kd1 : (d.kind == 1) = false := by simp [hd]
  have kd2 : (d.kind == 2) = true := by simp [hd]
  clear hd
  go_enter Try.func11, Try.ntmps11
  go_wp2_with fail
  rw [← HW.out]
  go_region_with (first | (go_at_call 15; refine (two_copyN d.k (by assumption) hL HK.out).mono ?_; rintro e w5 ⟨rfl, f5, k5⟩; have HB5 : Hid (Blk w5 w.heap.size 38 #[.int .i64 d.kind, .int .i64 d.k, .int .i64 d.p.src, .int .i64 d.p.dst, .string d.p.data]) := k5.2 _ _ (by first | exact hb.out | exact HB6.out); obtain ⟨s0, s1, s2, s3, s4⟩ := cells_of_blk5 HB5.out; have g5 := two_drew f5; clear k5) | (go_at_call 19; refine (two_copyR d.k (by assumption) hL HK.out).mono ?_; rintro e w6 ⟨rfl, f6, k6⟩; have HB6 : Hid (Blk w6 w.heap.size 38 #[.int .i64 d.kind, .int .i64 d.k, .int .i64 d.p.src, .int .i64 d.p.dst, .string d.p.data]) := k6.2 _ _ (by first | exact hb.out | exact HB5.out); obtain ⟨r0, r1, r2, r3, r4⟩ := cells_of_blk5 HB6.out; have g6 := two_drew f6; clear k6))
  all_goals
    go_wp2_with fail
    refine bodyPost_ret (v := .bool true) (by simp [results, Try.results11, Act.put]) rfl ⟨rfl, _, by first | exact f6 | exact f5 | exact g6 | exact g5, copyList_60 _ hL⟩

set_option maxRecDepth 100000 in
set_option maxHeartbeats 4000000 in
theorem does_take (w0 w : World) (g h : Nat) (L : List Pk) (d : Dd) (t : Two w0 g h w L L) (hL : L.length ≤ 60) (hk : I64 d.k) (hd : d.kind = 1) :
    Calls Try.prog 11 #[.pointer (some ⟨g, 0, none⟩), .pointer (some ⟨h, 0, none⟩), .agg #[.int .i64 d.kind, .int .i64 d.k, .int .i64 d.p.src, .int .i64 d.p.dst, .string d.p.data]] w (DoesPost w0 g h) := by
  obtain ⟨w1, hw1⟩ : ∃ w1, w1 = w.alloc (Obj.cells #[.int .i64 d.kind, .int .i64 d.k, .int .i64 d.p.src, .int .i64 d.p.dst, .string d.p.data] 38) := ⟨_, rfl⟩
  have t1 : Two w0 g h w1 L L := by rw [hw1]; exact two_below t ((Below.refl _ _).alloc (Nat.le_refl _) _)
  have td := two_drew t1
  have hb : Hid (Blk w1 w.heap.size 38 #[.int .i64 d.kind, .int .i64 d.k, .int .i64 d.p.src, .int .i64 d.p.dst, .string d.p.data]) := by rw [hw1]; exact Blk.new _ _ _
  have hsw : w.heap.size < w1.heap.size := by rw [hw1]; simp
  have HW := Lib.hid hw1
  have HK := Lib.hid hk
  clear hw1 t hk
  obtain ⟨c0, c1, c2, c3, c4⟩ := cells_of_blk5 hb.out
  rw [hd] at c0
  have kd : (d.kind == 0) = false := by simp [hd]
  have kd1 : (d.kind == 1) = true := by simp [hd]
  clear hd
  have HTN := Lib.hid (two_takeN d.k t1 hL HK.out)
  have HTR := Lib.hid (fun wx (tx : Two w0 g h wx (takeList L d.k) L) => two_takeR_new d.k tx hL HK.out)
  obtain ⟨V, hV⟩ : ∃ p : Pk, ∃ b : Bool, takeVal L d.k = .tuple #[.agg #[.int .i64 p.src, .int .i64 p.dst, .string p.data], .bool b] := by
    unfold takeVal
    split
    · exact ⟨_, true, rfl⟩
    · exact ⟨⟨0, 0, ⟨#[]⟩⟩, false, rfl⟩
  obtain ⟨bb, hV⟩ := hV
  rw [hV] at HTN HTR
  have e1 := run_eql_pk V V
  simp only [decide_true] at e1
  clear hV
  go_enter Try.func11, Try.ntmps11
  go_wp2_with fail
  rw [← HW.out]
  refine HTN.out.mono ?_
  rintro e w5 ⟨rfl, f5, k5⟩
  have HB5 : Hid (Blk w5 w.heap.size 38 #[.int .i64 d.kind, .int .i64 d.k, .int .i64 d.p.src, .int .i64 d.p.dst, .string d.p.data]) := k5.2 _ _ hb.out
  obtain ⟨s0, s1, s2, s3, s4⟩ := cells_of_blk5 HB5.out
  have hs5 : w.heap.size < w5.heap.size := Nat.lt_of_lt_of_le hsw k5.1
  have G5 := Lib.hid f5
  clear k5 f5
  go_wp2_with fail
  refine (HTR.out _ G5.out 28 #[.int .i64 V.src, .int .i64 V.dst, .string V.data]).mono ?_
  rintro e w7 ⟨rfl, f7, b7, hs7⟩
  obtain ⟨p0, p1, p2⟩ := cells_of_blk3 b7
  have F7 := Lib.hid f7
  clear f7 b7
  go_wp2_with fail
  go_ret
  exact ⟨rfl, _, two_below F7.out ((Below.refl _ _).alloc (Nat.le_refl _) _), takeList_60 _ hL⟩

set_option maxRecDepth 100000 in
set_option maxHeartbeats 4000000 in
theorem does_other (w0 w : World) (g h : Nat) (L : List Pk) (d : Dd) (t : Two w0 g h w L L) (hL : L.length ≤ 60) (hk : I64 d.k) (h0 : d.kind ≠ 0) (h1 : d.kind ≠ 1) (h2 : d.kind ≠ 2) :
    Calls Try.prog 11 #[.pointer (some ⟨g, 0, none⟩), .pointer (some ⟨h, 0, none⟩), .agg #[.int .i64 d.kind, .int .i64 d.k, .int .i64 d.p.src, .int .i64 d.p.dst, .string d.p.data]] w (DoesPost w0 g h) := by
  obtain ⟨w1, hw1⟩ : ∃ w1, w1 = w.alloc (Obj.cells #[.int .i64 d.kind, .int .i64 d.k, .int .i64 d.p.src, .int .i64 d.p.dst, .string d.p.data] 38) := ⟨_, rfl⟩
  have t1 : Two w0 g h w1 L L := by rw [hw1]; exact two_below t ((Below.refl _ _).alloc (Nat.le_refl _) _)
  have td := two_drew t1
  have hb : Hid (Blk w1 w.heap.size 38 #[.int .i64 d.kind, .int .i64 d.k, .int .i64 d.p.src, .int .i64 d.p.dst, .string d.p.data]) := by rw [hw1]; exact Blk.new _ _ _
  have hsw : w.heap.size < w1.heap.size := by rw [hw1]; simp
  have HW := Lib.hid hw1
  have HK := Lib.hid hk
  clear hw1 t hk
  obtain ⟨c0, c1, c2, c3, c4⟩ := cells_of_blk5 hb.out
  have kd : (d.kind == 0) = false := by simp [h0]
  have kd1 : (d.kind == 1) = false := by simp [h1]
  have kd2 : (d.kind == 2) = false := by simp [h2]
  clear h0 h1 h2
  go_enter Try.func11, Try.ntmps11
  go_wp2_with fail
  rw [← HW.out]
  go_ret
  exact ⟨rfl, L, t1, hL⟩

theorem does_walk (w0 w : World) (g h : Nat) (L : List Pk) (d : Dd) (t : Two w0 g h w L L) (hL : L.length ≤ 60) (hk : I64 d.k) :
    Calls Try.prog 11 #[.pointer (some ⟨g, 0, none⟩), .pointer (some ⟨h, 0, none⟩), .agg #[.int .i64 d.kind, .int .i64 d.k, .int .i64 d.p.src, .int .i64 d.p.dst, .string d.p.data]] w (DoesPost w0 g h) := by
  by_cases h0 : d.kind = 0
  · exact does_put w0 w g h L d t hL hk h0
  · by_cases h1 : d.kind = 1
    · exact does_take w0 w g h L d t hL hk h1
    · by_cases h2 : d.kind = 2
      · exact does_copy w0 w g h L d t hL hk h2
      · exact does_other w0 w g h L d t hL hk h0 h1 h2

end Go.Proofs.Ytnccgbcmencncaa
