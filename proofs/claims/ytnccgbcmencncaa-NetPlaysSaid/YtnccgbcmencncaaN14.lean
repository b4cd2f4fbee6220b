/- Whatever is asked of a net, it answers, and has, just what the document says: the walk. -/
import Derived.Test.YtnccgbcmencncaaN13
namespace Go.Proofs.Ytnccgbcmencncaa
open Go.RowKit

theorem two_start {w0 w1 : World} (h : Lives w0 w1 []) : Two w0 w0.heap.size w1.heap.size (w1.alloc (.cells #[.slice none 0 0] 35)) [] [] := by
  obtain ⟨hb, v, n⟩ := h
  refine ⟨hb.alloc hb.size _, v, .slice none 0 0, n.alloc _, ⟨hb.size, Blk.new _ _ _, World.ownsRow_nil _ _ _ _⟩, fun k _ e => by simp [Value.ownBlock] at e⟩

/-- All, and what the document's net holds. -/
theorem two_all {w0 w : World} {g h : Nat} {L : List Pk} (t : Two w0 g h w L L) (hL : L.length ≤ 60) :
    Calls Try.prog 9 #[.pointer (some ⟨g, 0, none⟩)] w fun e w' => ∃ A c, e = .returned (.slice A L.length c) ∧ Sum A c L w' ∧ Below w.heap.size w w' := by
  obtain ⟨b, v, u, n, r, s⟩ := t
  refine (all_any _ _ v L w n (by omega)).mono fun _ _ ⟨v', he, ho, hb⟩ => ?_
  obtain ⟨A, c, rfl⟩ : ∃ A c, v' = .slice A L.length c := by
    rcases ho.2 with ⟨rfl, h0⟩ | ⟨g, cap, cur, rfl, _⟩
    · rw [h0]; exact ⟨_, _, rfl⟩
    · exact ⟨_, _, rfl⟩
  exact ⟨A, c, he, ⟨_, ho⟩, hb⟩
theorem two_ref {w0 w : World} {g h : Nat} {L : List Pk} (t : Two w0 g h w L L) : ∃ B d, w.cell? ⟨h, 0, none⟩ = some (.slice B L.length d) ∧ Sum B d L w ∧ h < w.heap.size := by
  obtain ⟨b, v, u, n, r, s⟩ := t
  obtain ⟨A, c, rfl⟩ : ∃ A c, u = .slice A L.length c := by
    rcases r.own.2 with ⟨rfl, h0⟩ | ⟨g, cap, cur, rfl, _⟩
    · rw [h0]; exact ⟨_, _, rfl⟩
    · exact ⟨_, _, rfl⟩
  exact ⟨A, c, r.blk.cell 0, ⟨_, r.own⟩, r.blk.lt⟩
theorem sum_below {w w' : World} {A : Option Addr} {c : Nat} {L : List Pk} (h : Sum A c L w) (hb : Below w.heap.size w w') : Sum A c L w' := by
  obtain ⟨b, h⟩ := h
  exact ⟨b, own_only h (F := fun _ => False) (Only.of_below hb) (fun _ _ => id)⟩
theorem sum_same {w : World} {A B : Option Addr} {c d : Nat} {L : List Pk} (h1 : Sum A c L w) (h2 : Sum B d L w) (hL : L.length ≤ 60) :
    Calls Try.prog 12 #[.slice A L.length c, .slice B L.length d] w fun e w' => e = .returned (.bool true) ∧ ∃ n, w' = w.drewN n := by
  obtain ⟨b1, h1⟩ := h1
  obtain ⟨b2, h2⟩ := h2
  refine (same_any b1 b2 _ _ L L w h1 h2 (by omega) (by omega)).mono fun _ _ ⟨he, hw⟩ => ⟨?_, hw⟩
  rw [he]
  simp

set_option maxRecDepth 100000 in
set_option maxHeartbeats 4000000 in
theorem plays_walk (A : Option Addr) (n c : Nat) (l : List Dd) (w : World) (ha : ArgDds w A n l) :
    Calls Try.prog 4 #[.slice A n c] w fun e w' => e = .returned (.bool true) ∧ Below w.heap.size w w' := by
  obtain ⟨hlen, hmax, hok, hcell⟩ := ha
  have HC := Lib.hid hcell
  have HO := Lib.hid hok
  have HL := Lib.hid hlen
  unfold maxLen at hmax
  clear hcell hok hlen
  go_enter Try.func4, Try.ntmps4
  go_wp2_with (go_at_call 7; refine (new_lives _).mono ?_; rintro e w1 ⟨rfl, n1⟩; have N1 := Lib.hid n1; clear n1)
  have T1 := Lib.hid (two_start N1.out)
  generalize w1.heap.size = h at *
  go_loopw [5] (fun q wr => ∃ (k : Nat) (L : List Pk), k ≤ n ∧ k ≤ 90 ∧ q = .int .i64 k ∧ Two w w.heap.size h wr L L ∧ L.length ≤ 60) (fun q _ => 90 - (intOf q).toNat)
  case atStart => exact ⟨0, [], by omega, by omega, rfl, T1.out, by simp⟩
  case round =>
    obtain ⟨k, L, hk, hk90, rfl, ht, hL60⟩ := hrel
    have HT := Lib.hid ht
    clear ht
    by_cases hlt : k < n ∧ k < 90
    · obtain ⟨h1, h2⟩ := hlt
      obtain ⟨b, o, rfl, hadb, hcs⟩ := HC.out (by omega)
      have hk2 : k < l.length := by have := HL.out; omega
      obtain ⟨x0, x1, x2, x3, x4⟩ := hcs k l[k] (List.getElem?_eq_getElem hk2)
      have hbw := HT.out.1
      have y0 := (hbw.cell (p := ⟨b, o + k * 5, none⟩) hadb).trans x0
      have y1 := (hbw.cell (p := ⟨b, o + k * 5 + 1, none⟩) hadb).trans x1
      have y2 := (hbw.cell (p := ⟨b, o + k * 5 + 2, none⟩) hadb).trans x2
      have y3 := (hbw.cell (p := ⟨b, o + k * 5 + 3, none⟩) hadb).trans x3
      have y4 := (hbw.cell (p := ⟨b, o + k * 5 + 4, none⟩) hadb).trans x4
      have d1 : decide ((k : Int) < (n : Int)) = true := by simp; omega
      have d2 : decide ((k : Int) < 90) = true := by simp; omega
      have i1 : (k : Int) < (n : Int) := by omega
      have i0 : (0 : Int) ≤ (k : Int) := by omega
      have HI := Lib.hid (HO.out l[k] (List.getElem_mem hk2)).2
      clear x0 x1 x2 x3 x4 hcs hbw
      generalize l[k] = d at *
      go_wp2_with (go_at_call 11; refine (does_walk w _ w.heap.size h L d HT.out hL60 HI.out).mono ?_; rintro e w2 ⟨rfl, L2, t2, hl2⟩; have T2 := Lib.hid t2; clear t2)
      obtain ⟨B, dd, hB, hS, hh⟩ := two_ref T2.out
      have HS := Lib.hid hS
      clear hS
      go_region_held3 (fun w' => w'.cell? ⟨h, 0, none⟩ = some (.slice B L2.length dd)) (first | go_keep | exact q0 | exact r0) ((first | (go_at_call 9; refine (two_all (two_drew T2.out) hl2).mono ?_; rintro e w3 ⟨A3, c3, rfl, s3, b3⟩; have q0 := (b3.cell (p := ⟨h, 0, none⟩) (show h < w2.heap.size from hh)).trans hB; have S3 := Lib.hid s3; have B3 := Lib.hid b3; clear s3 b3) | (go_at_call 12; refine (sum_same S3.out (sum_below HS.out (Below.trans (Below.refl _ _).drew B3.out)) hl2).mono ?_; rintro e w4 ⟨rfl, m4, rfl⟩; have r0 : (w3.drewN m4).cell? ⟨h, 0, none⟩ = some (.slice B L2.length dd) := q0)))
      go_wp2_with fail
      go_roundw
      case rel => exact ⟨k + 1, L2, by omega, by omega, by go_num, two_below (two_below (two_drew T2.out) B3.out) (below_drewN (Below.refl _ _) _), hl2⟩
      case measure => simp [intOf]; omega
    · by_cases hkn : k < n
      case' pos =>
        have d1 : decide ((k : Int) < (n : Int)) = true := by simp; omega
        have d2 : decide ((k : Int) < 90) = false := by simp; omega
        have i2 : ¬ (k : Int) < 90 := by omega
      case' neg =>
        have d1 : decide ((k : Int) < (n : Int)) = false := by simp; omega
        have i2 : ¬ (k : Int) < (n : Int) := by omega
      all_goals
        clear hlt
        go_wp2_with (go_at_call 10; refine (lives_any _).mono ?_; rintro e w8 ⟨rfl, b8⟩; have B8 := Lib.hid b8; clear b8)
        go_ret
        exact ⟨rfl, HT.out.1.trans (B8.out.mono HT.out.1.size)⟩
end Go.Proofs.Ytnccgbcmencncaa
