/- A packet is taken as often as it was put, or copied, less those that are there still: the walk. -/
import Derived.Test.YtnccgbcmencncaaA2
import Derived.Deep.RegionHeld3
namespace Go.Proofs.Ytnccgbcmencncaa
open Go.RowKit

/-- What has been counted: so many in, so many out, of the k first deeds. -/
def CntRel (w0 : World) (p : Pk) (k : Nat) (i o : Int) (w : World) : Prop :=
  ∃ L, Lives w0 w L ∧ L.length ≤ 60 ∧ i - o = countP p L ∧ 0 ≤ o ∧ o ≤ k ∧ i ≤ k ∧ 0 ≤ i

def Sum (A : Option Addr) (c : Nat) (L : List Pk) (w : World) : Prop := ∃ b, w.ownsRow b 28 3 (.slice A L.length c) L.length (pks L)

theorem cnt_all {w0 w : World} {L : List Pk} (h : Lives w0 w L) (hl : L.length ≤ 60) : Calls Try.prog 9 #[.pointer (some ⟨w0.heap.size, 0, none⟩)] w fun e w' => ∃ A c, e = .returned (.slice A L.length c) ∧ Sum A c L w' ∧ Lives w0 w' L ∧ Below w.heap.size w w' :=
  (all_lives h (by omega)).mono fun _ _ ⟨A, c, he, ho, h1, h2⟩ => ⟨A, c, he, ⟨_, ho⟩, h1, h2⟩
theorem cnt_count {w : World} {A : Option Addr} {c : Nat} {L : List Pk} (p : Pk) (h : Sum A c L w) (hl : L.length ≤ 60) : Calls Try.prog 13 #[.slice A L.length c, .agg #[.int .i64 p.src, .int .i64 p.dst, .string p.data]] w fun e w' => e = .returned (.int .i64 (countP p L)) ∧ Below w.heap.size w w' := by
  obtain ⟨b, h⟩ := h
  exact count_any b _ L p w h (by omega)

theorem putList_len (l : List Pk) (p : Pk) : (putList l p).length ≤ max l.length 60 := by
  by_cases hL : l.length < 60
  · rw [putList_lt hL]; simp; omega
  · rw [putList_ge hL]; omega

/-- Blocks of other types than a net's are as they were. -/
def Keeps (w w' : World) : Prop := ∀ (b : Nat) (t : TypeId) (cs : Array Value), t ≠ 48 → t ≠ 28 → Blk w b t cs → Blk w' b t cs
theorem keeps_of {w w' : World} {base g : Nat} {v : Value} {l : List Pk} (n : NetAt w 48 base g v l) (o : Only (foot g v) w w') : Keeps w w' := fun b t cs h1 h2 hb => hb.only o (by
  rintro (e | e)
  · exact hb.ne_ n.blk h1 e
  · exact own_blk_ne n.own hb (Ne.symm h2) e)
theorem keeps_below {w w' : World} (h : Below w.heap.size w w') : Keeps w w' := fun _ _ _ _ _ hb => hb.only (F := fun _ => False) (Only.of_below h) id

theorem put_keeps {w0 w : World} {l : List Pk} (p : Pk) (h : Lives w0 w l) : Calls Try.prog 8 #[.pointer (some ⟨w0.heap.size, 0, none⟩), .agg #[.int .i64 p.src, .int .i64 p.dst, .string p.data]] w fun e w' => e = .returned (.int .i64 (putCode l.length)) ∧ Lives w0 w' (putList l p) ∧ Keeps w w' := by
  obtain ⟨h, v, n⟩ := h
  exact (put_any _ _ v l p w n h.size).mono fun _ _ ⟨he, v', n', o, _⟩ => ⟨he, lives_step h n n' o, keeps_of n o⟩
theorem take_keeps_none {w0 w : World} (k : Int) (h : Lives w0 w []) : Calls Try.prog 14 #[.pointer (some ⟨w0.heap.size, 0, none⟩), .int .i64 k] w fun e w' => e = .returned (.tuple #[.agg #[.int .i64 0, .int .i64 0, .string ⟨#[]⟩], .bool false]) ∧ Lives w0 w' [] ∧ Keeps w w' := by
  obtain ⟨h, v, n⟩ := h
  exact (take_none _ _ v k w n).mono fun _ _ ⟨he, b⟩ => ⟨he, lives_below ⟨h, v, n⟩ b, keeps_below b⟩
theorem take_keeps {w0 w : World} {l : List Pk} (k : Int) (p : Pk) (h : Lives w0 w l) (hl : 0 < l.length) (hl2 : l.length ≤ 60) (hk : I64 k) (hp : l[place k l.length]? = some p) :
    Calls Try.prog 14 #[.pointer (some ⟨w0.heap.size, 0, none⟩), .int .i64 k] w fun e w' => e = .returned (.tuple #[.agg #[.int .i64 p.src, .int .i64 p.dst, .string p.data], .bool true]) ∧ Lives w0 w' (l.eraseIdx (place k l.length)) ∧ Keeps w w' := by
  obtain ⟨h, v, n⟩ := h
  have hp' := (List.getElem?_eq_some_iff.1 hp).2
  have := take_some _ _ v k l w n hl hl2 hk
  rw [hp'] at this
  exact this.mono fun _ _ ⟨he, v', n', o, _⟩ => ⟨he, lives_step h n n' o, keeps_of n o⟩
theorem copy_keeps_none {w0 w : World} (k : Int) (h : Lives w0 w []) : Calls Try.prog 15 #[.pointer (some ⟨w0.heap.size, 0, none⟩), .int .i64 k] w fun e w' => e = .returned (.int .i64 7) ∧ Lives w0 w' [] ∧ Keeps w w' := by
  obtain ⟨h, v, n⟩ := h
  exact (copy_none _ _ v k w n).mono fun _ _ ⟨he, b⟩ => ⟨he, lives_below ⟨h, v, n⟩ b, keeps_below b⟩
theorem copy_keeps {w0 w : World} {l : List Pk} (k : Int) (p : Pk) (h : Lives w0 w l) (hl : 0 < l.length) (hl2 : l.length ≤ 60) (hk : I64 k) (hp : l[place k l.length]? = some p) :
    Calls Try.prog 15 #[.pointer (some ⟨w0.heap.size, 0, none⟩), .int .i64 k] w fun e w' => e = .returned (.int .i64 (putCode l.length)) ∧ Lives w0 w' (putList l p) ∧ Keeps w w' := by
  obtain ⟨h, v, n⟩ := h
  exact (copy_some _ _ v k l p w n hl hl2 hk hp h.size).mono fun _ _ ⟨he, v', n', o, _⟩ => ⟨he, lives_step h n n' o, keeps_of n o⟩

theorem copy_cnt {w0 w : World} {l : List Pk} (p : Pk) (k : Int) (h : Lives w0 w l) (hl2 : l.length ≤ 60) (hk : I64 k) :
    Calls Try.prog 15 #[.pointer (some ⟨w0.heap.size, 0, none⟩), .int .i64 k] w fun e w' => ∃ c L', e = .returned (.int .i64 c) ∧ Lives w0 w' L' ∧ L'.length ≤ 60 ∧ countP p l ≤ countP p L' ∧ countP p L' ≤ countP p l + 1 ∧ Keeps w w' := by
  by_cases h0 : l.length = 0
  · have hn : l = [] := List.eq_nil_of_length_eq_zero h0
    subst hn
    exact (copy_keeps_none k h).mono fun _ _ ⟨he, h1, h2⟩ => ⟨_, [], he, h1, by simp, Nat.le_refl _, by omega, h2⟩
  · have hp := List.getElem?_eq_getElem (place_lt k l.length (by omega))
    refine (copy_keeps k _ h (by omega) hl2 hk hp).mono fun _ _ ⟨he, h1, h2⟩ => ⟨_, _, he, h1, ?_, ?_, ?_, h2⟩
    · have := putList_len l (l[place k l.length]'(place_lt k _ (by omega))); omega
    · by_cases hL : l.length < 60
      · rw [putList_lt hL, countP_append]; omega
      · rw [putList_ge hL]; omega
    · by_cases hL : l.length < 60
      · rw [putList_lt hL, countP_append]; split <;> omega
      · rw [putList_ge hL]; omega

theorem cells_of_blk3 {w : World} {b : Nat} {t : TypeId} {x y z : Value} (h : Blk w b t #[x, y, z]) : w.cell? ⟨b, 0, none⟩ = some x ∧ w.cell? ⟨b, 1, none⟩ = some y ∧ w.cell? ⟨b, 2, none⟩ = some z :=
  ⟨h.cell 0, h.cell 1, h.cell 2⟩
theorem cells_of_blk5 {w : World} {b : Nat} {t : TypeId} {x y z u v : Value} (h : Blk w b t #[x, y, z, u, v]) : w.cell? ⟨b, 0, none⟩ = some x ∧ w.cell? ⟨b, 1, none⟩ = some y ∧ w.cell? ⟨b, 2, none⟩ = some z ∧ w.cell? ⟨b, 3, none⟩ = some u ∧ w.cell? ⟨b, 4, none⟩ = some v :=
  ⟨h.cell 0, h.cell 1, h.cell 2, h.cell 3, h.cell 4⟩

set_option maxRecDepth 100000 in
set_option maxHeartbeats 4000000 in
theorem counts_walk (A : Option Addr) (n c : Nat) (l : List Dd) (p : Pk) (w : World) (ha : ArgDds w A n l) :
    Calls Try.prog 5 #[.slice A n c, p.agg] w fun e w' => e = .returned (.bool true) ∧ Below w.heap.size w w' := by
  obtain ⟨hlen, hmax, hok, hcell⟩ := ha
  have HC := Lib.hid hcell
  have HO := Lib.hid hok
  have HL := Lib.hid hlen
  unfold maxLen at hmax
  clear hcell hok hlen
  obtain ⟨src, dst, data⟩ := p
  show Calls Try.prog 5 #[.slice A n c, .agg #[.int .i64 src, .int .i64 dst, .string data]] w _
  go_enter Try.func5, Try.ntmps5
  go_wp2_with fail
  obtain ⟨w0, hw0⟩ : ∃ w0, w0 = w.alloc (Obj.cells #[.int .i64 src, .int .i64 dst, .string data] 28) := ⟨_, rfl⟩
  rw [← hw0]
  have hs0 : w.heap.size < w0.heap.size := by rw [hw0]; simp
  have hbx : Hid (Blk w0 w.heap.size 28 #[.int .i64 src, .int .i64 dst, .string data]) := by rw [hw0]; exact Blk.new _ _ _
  have hb0 : Hid (Below w.heap.size w w0) := by rw [hw0]; exact (Below.refl _ _).alloc (Nat.le_refl _) _
  clear hw0
  go_wp2_with (go_at_call 7; refine (new_lives _).mono ?_; rintro e w1 ⟨rfl, n1⟩; have N1 := Lib.hid n1; clear n1)
  go_loopw [6, 7, 8] (fun i o q wr => ∃ (k : Nat) (ii oo : Int), k ≤ n ∧ k ≤ 90 ∧ q = .int .i64 k ∧ i = .int .i64 ii ∧ o = .int .i64 oo ∧ CntRel w0 ⟨src, dst, data⟩ k ii oo wr) (fun _ _ q _ => 90 - (intOf q).toNat)
  case atStart => exact ⟨0, 0, 0, by omega, by omega, rfl, rfl, rfl, [], N1.out, by simp, by simp [countP], by omega, by omega, by omega, by omega⟩
  case round =>
    obtain ⟨k, ii, oo, hk, hk90, rfl, rfl, rfl, hrel⟩ := hrel
    obtain ⟨L, hL, hL60, hsum, ho0, hok2, hik, hi0⟩ := hrel
    have HF := Lib.hid hL
    have hcb := countP_le ⟨src, dst, data⟩ L
    have HS := Lib.hid hsum
    clear hL hsum
    by_cases hlt : k < n ∧ k < 90
    · obtain ⟨h1, h2⟩ := hlt
      obtain ⟨b, o, rfl, hadb, hcs⟩ := HC.out (by omega)
      have hk2 : k < l.length := by have := HL.out; omega
      obtain ⟨x0, x1, x2, x3, x4⟩ := hcs k l[k] (List.getElem?_eq_getElem hk2)
      have hbw : Below w.heap.size w wr := hb0.out.trans (HF.out.1.mono (by omega))
      have y0 := (hbw.cell (p := ⟨b, o + k * 5, none⟩) hadb).trans x0
      have y1 := (hbw.cell (p := ⟨b, o + k * 5 + 1, none⟩) hadb).trans x1
      have y2 := (hbw.cell (p := ⟨b, o + k * 5 + 2, none⟩) hadb).trans x2
      have y3 := (hbw.cell (p := ⟨b, o + k * 5 + 3, none⟩) hadb).trans x3
      have y4 := (hbw.cell (p := ⟨b, o + k * 5 + 4, none⟩) hadb).trans x4
      have d1 : decide ((k : Int) < (n : Int)) = true := by simp; omega
      have d2 : decide ((k : Int) < 90) = true := by simp; omega
      have i1 : (k : Int) < (n : Int) := by omega
      have i0 : (0 : Int) ≤ (k : Int) := by omega
      have hI := (HO.out l[k] (List.getElem_mem hk2)).2
      have bx := hbx.out
      have z0 := (HF.out.1.cell (p := ⟨w.heap.size, 0, none⟩) (by exact hs0)).trans (bx.cell 0)
      have z1 := (HF.out.1.cell (p := ⟨w.heap.size, 1, none⟩) (by exact hs0)).trans (bx.cell 1)
      have z2 := (HF.out.1.cell (p := ⟨w.heap.size, 2, none⟩) (by exact hs0)).trans (bx.cell 2)
      simp at z0 z1 z2
      have HI := Lib.hid hI
      have hsz := HF.out.1.size
      have hsw : w.heap.size < wr.heap.size := by omega
      clear x0 x1 x2 x3 x4 hcs hbw hI bx
      generalize l[k] = d at *
      go_wp2_with fail
      obtain ⟨w2, hw2⟩ : ∃ w2, w2 = wr.alloc (Obj.cells #[.int .i64 d.kind, .int .i64 d.k, .int .i64 d.p.src, .int .i64 d.p.dst, .string d.p.data] 38) := ⟨_, rfl⟩
      rw [← hw2]
      have hs2 : wr.heap.size < w2.heap.size := by rw [hw2]; simp
      have v0 : w2.cell? ⟨w.heap.size, 0, none⟩ = some (.int .i64 src) := by rw [hw2]; go_simp
      have v1 : w2.cell? ⟨w.heap.size, 1, none⟩ = some (.int .i64 dst) := by rw [hw2]; go_simp
      have v2 : w2.cell? ⟨w.heap.size, 2, none⟩ = some (.string data) := by rw [hw2]; go_simp
      have HB2 : Hid (Blk w2 wr.heap.size 38 #[.int .i64 d.kind, .int .i64 d.k, .int .i64 d.p.src, .int .i64 d.p.dst, .string d.p.data]) := by rw [hw2]; exact Blk.new _ _ _
      have HF2 : Hid (Lives w0 w2 L) := by rw [hw2]; exact lives_below HF.out ((Below.refl _ _).alloc (Nat.le_refl _) _)
      clear hw2 y0 y1 y2 y3 y4 z0 z1 z2
      go_region_held3 (fun w' => w'.cell? ⟨w.heap.size, 0, none⟩ = some (.int .i64 src) ∧ w'.cell? ⟨w.heap.size, 1, none⟩ = some (.int .i64 dst) ∧ w'.cell? ⟨w.heap.size, 2, none⟩ = some (.string data)) (first | go_keep | exact ⟨q0, q1, q2⟩ | exact ⟨r0, r1, r2⟩) ((first | (go_at_call 9; refine (cnt_all (lives_below HF2.out (Below.refl _ _).drew) hL60).mono ?_; rintro e w3 ⟨A3, c3, rfl, s3, f3, b3⟩; have q0 := (b3.cell (p := ⟨w.heap.size, 0, none⟩) (show w.heap.size < w2.heap.size by omega)).trans v0; have q1 := (b3.cell (p := ⟨w.heap.size, 1, none⟩) (show w.heap.size < w2.heap.size by omega)).trans v1; have q2 := (b3.cell (p := ⟨w.heap.size, 2, none⟩) (show w.heap.size < w2.heap.size by omega)).trans v2; have S3 := Lib.hid s3; have F3 := Lib.hid f3; have B3 := Lib.hid b3; clear s3 f3 b3) | (go_at_call 13; refine (cnt_count ⟨src, dst, data⟩ S3.out hL60).mono ?_; rintro e w4 ⟨rfl, b4⟩; have r0 := (b4.cell (p := ⟨w.heap.size, 0, none⟩) (by have := B3.out.size; show w.heap.size < w3.heap.size; have : w2.heap.size ≤ w3.heap.size := this; omega)).trans q0; have r1 := (b4.cell (p := ⟨w.heap.size, 1, none⟩) (by have := B3.out.size; show w.heap.size < w3.heap.size; have : w2.heap.size ≤ w3.heap.size := this; omega)).trans q1; have r2 := (b4.cell (p := ⟨w.heap.size, 2, none⟩) (by have := B3.out.size; show w.heap.size < w3.heap.size; have : w2.heap.size ≤ w3.heap.size := this; omega)).trans q2; have B4 := Lib.hid b4; clear b4 q0 q1 q2)))
      have F4 := Lib.hid (lives_below F3.out B4.out)
      have hB34 : Below w2.heap.size w2 w4 := ⟨B4.out.os.trans B3.out.os, B4.out.tape.trans B3.out.tape, B4.out.output.trans B3.out.output, Nat.le_trans B3.out.size B4.out.size, fun i hi => (B4.out.block i (Nat.lt_of_lt_of_le hi B3.out.size)).trans (B3.out.block i hi)⟩
      have HD4 := Lib.hid (keeps_below hB34 _ _ _ (by decide) (by decide) HB2.out)
      obtain ⟨t0, t1, t2, t3, t4⟩ := cells_of_blk5 HD4.out
      have hs4 : w0.heap.size ≤ w4.heap.size := F4.out.1.size
      clear hB34 v0 v1 v2
      have hcb2 : (countP ⟨src, dst, data⟩ L : Int) ≤ 60 := by omega
      by_cases k0 : d.kind = 0
      · rw [k0] at t0
        clear k0
        by_cases hL60' : L.length < 60
        · have hput := put_keeps d.p F4.out
          rw [putCode_lt hL60', putList_lt hL60'] at hput
          have HPUT := Lib.hid hput
          have e1 := run_eql_pk d.p ⟨src, dst, data⟩
          clear hput
          by_cases heq : d.p = ⟨src, dst, data⟩
          all_goals
            first | simp only [decide_eq_true heq] at e1 | simp only [decide_eq_false heq] at e1
            have HEQ := Lib.hid heq
            clear heq
            go_wp2_with (go_at_call 8; refine HPUT.out.mono ?_; rintro e w5 ⟨rfl, f5, kp⟩; obtain ⟨s0, s1, s2, s3, s4⟩ := cells_of_blk5 (kp _ _ _ (by decide) (by decide) HD4.out); obtain ⟨p0, p1, p2⟩ := cells_of_blk3 (show Blk w5 w.heap.size 28 #[.int .i64 src, .int .i64 dst, .string data] from (f5.1.block _ hs0).trans hbx.out); have F5 := Lib.hid f5; clear f5 kp)
            go_roundw
            case rel =>
              refine ⟨k + 1, _, _, by omega, by omega, by go_num, rfl, rfl, _, F5.out, by simp; omega, ?_, by omega, by omega, by omega, by omega⟩
              have := HS.out
              rw [countP_append]
              simp [HEQ.out]
              omega
            case measure => simp [intOf]; omega
        · have hput := put_keeps d.p F4.out
          rw [putCode_ge hL60', putList_ge hL60'] at hput
          have HPUT := Lib.hid hput
          clear hput
          go_wp2_with (go_at_call 8; refine HPUT.out.mono ?_; rintro e w5 ⟨rfl, f5, kp⟩; have F5 := Lib.hid f5; clear f5 kp)
          go_roundw
          case rel => exact ⟨k + 1, _, _, by omega, by omega, by go_num, rfl, rfl, _, F5.out, hL60, HS.out, by omega, by omega, by omega, by omega⟩
          case measure => simp [intOf]; omega
      · by_cases k1 : d.kind = 1
        · rw [k1] at t0
          clear k0 k1
          by_cases hL0 : L.length = 0
          · have hn : L = [] := List.eq_nil_of_length_eq_zero hL0
            subst hn
            go_wp2_with (go_at_call 14; refine (take_keeps_none d.k F4.out).mono ?_; rintro e w5 ⟨rfl, f5, kp⟩; have F5 := Lib.hid f5; clear f5 kp)
            go_roundw
            case rel => exact ⟨k + 1, _, _, by omega, by omega, by go_num, rfl, rfl, _, lives_below F5.out ((Below.refl _ _).alloc (Nat.le_refl _) _), hL60, HS.out, by omega, by omega, by omega, by omega⟩
            case measure => simp [intOf]; omega
          · have hp := List.getElem?_eq_getElem (place_lt d.k L.length (by omega))
            generalize L[place d.k L.length]'(place_lt d.k L.length (by omega)) = x at hp
            have HT := Lib.hid (take_keeps d.k x F4.out (by omega) hL60 HI.out hp)
            have HCE := Lib.hid (countP_erase ⟨src, dst, data⟩ L _ x hp)
            have hle : (L.eraseIdx (place d.k L.length)).length ≤ 60 := by rw [List.length_eraseIdx]; split <;> omega
            have HLE := Lib.hid hle
            have e1 := run_eql_pk x ⟨src, dst, data⟩
            clear hp hle
            by_cases heq : x = ⟨src, dst, data⟩
            all_goals
              first | simp only [decide_eq_true heq] at e1 | simp only [decide_eq_false heq] at e1
              have HEQ := Lib.hid heq
              clear heq
              go_wp2_with (go_at_call 14; refine HT.out.mono ?_; rintro e w5 ⟨rfl, f5, kp⟩; obtain ⟨p0, p1, p2⟩ := cells_of_blk3 (show Blk w5 w.heap.size 28 #[.int .i64 src, .int .i64 dst, .string data] from (f5.1.block _ hs0).trans hbx.out); have hs5 : w.heap.size < w5.heap.size := Nat.lt_of_lt_of_le hs0 f5.1.size; have F5 := Lib.hid f5; clear f5 kp)
              go_roundw
              case rel =>
                refine ⟨k + 1, _, _, by omega, by omega, by go_num, rfl, rfl, _, lives_below F5.out ((Below.refl _ _).alloc (Nat.le_refl _) _), HLE.out, ?_, by omega, by omega, by omega, by omega⟩
                have := HS.out
                have h2 := HCE.out
                simp [HEQ.out] at h2
                omega
              case measure => simp [intOf]; omega
        · by_cases k2 : d.kind = 2
          · rw [k2] at t0
            clear k0 k1 k2
            go_wp2_with (go_at_call 15; refine (copy_cnt ⟨src, dst, data⟩ d.k F4.out hL60 HI.out).mono ?_; rintro e w5 ⟨cc, L5, rfl, f5, hl5, hc1, hc2, kp⟩; obtain ⟨p0, p1, p2⟩ := cells_of_blk3 (show Blk w5 w.heap.size 28 #[.int .i64 src, .int .i64 dst, .string data] from (f5.1.block _ hs0).trans hbx.out); have hs5 : w.heap.size < w5.heap.size := Nat.lt_of_lt_of_le hs0 f5.1.size; have F5 := Lib.hid f5; clear f5 kp)
            have wr1 : IntKind.i64.wrap (ii + ↑(countP ⟨src, dst, data⟩ L5)) = ii + ↑(countP ⟨src, dst, data⟩ L5) := IntWalk.i64_in _ (by omega)
            have wr2 : IntKind.i64.wrap (ii + ↑(countP ⟨src, dst, data⟩ L5) - ↑(countP ⟨src, dst, data⟩ L)) = ii + ↑(countP ⟨src, dst, data⟩ L5) - ↑(countP ⟨src, dst, data⟩ L) := IntWalk.i64_in _ (by omega)
            go_region_held3 (fun w' => w'.cell? ⟨w.heap.size, 0, none⟩ = some (.int .i64 src) ∧ w'.cell? ⟨w.heap.size, 1, none⟩ = some (.int .i64 dst) ∧ w'.cell? ⟨w.heap.size, 2, none⟩ = some (.string data)) (first | go_keep | exact ⟨q0, q1, q2⟩ | exact ⟨r0, r1, r2⟩) ((first | (go_at_call 9; refine (cnt_all (lives_below F5.out (Below.refl _ _).drew) hl5).mono ?_; rintro e w6 ⟨A6, c6, rfl, s6, f6, b6⟩; have q0 := (b6.cell (p := ⟨w.heap.size, 0, none⟩) (show w.heap.size < w5.heap.size by omega)).trans p0; have q1 := (b6.cell (p := ⟨w.heap.size, 1, none⟩) (show w.heap.size < w5.heap.size by omega)).trans p1; have q2 := (b6.cell (p := ⟨w.heap.size, 2, none⟩) (show w.heap.size < w5.heap.size by omega)).trans p2; have S6 := Lib.hid s6; have F6 := Lib.hid f6; have B6 := Lib.hid b6; clear s6 f6 b6) | (go_at_call 13; refine (cnt_count ⟨src, dst, data⟩ S6.out hl5).mono ?_; rintro e w7 ⟨rfl, b7⟩; have r0 := (b7.cell (p := ⟨w.heap.size, 0, none⟩) (by have : w5.heap.size ≤ w6.heap.size := B6.out.size; show w.heap.size < w6.heap.size; omega)).trans q0; have r1 := (b7.cell (p := ⟨w.heap.size, 1, none⟩) (by have : w5.heap.size ≤ w6.heap.size := B6.out.size; show w.heap.size < w6.heap.size; omega)).trans q1; have r2 := (b7.cell (p := ⟨w.heap.size, 2, none⟩) (by have : w5.heap.size ≤ w6.heap.size := B6.out.size; show w.heap.size < w6.heap.size; omega)).trans q2; have B7 := Lib.hid b7; clear b7 q0 q1 q2)))
            go_wp2_with fail
            go_roundw
            case rel =>
              refine ⟨k + 1, _, _, by omega, by omega, by go_num, rfl, rfl, _, lives_below F6.out B7.out, hl5, ?_, by omega, by omega, by omega, by omega⟩
              have := HS.out
              omega
            case measure => simp [intOf]; omega
          · have e0 : (d.kind == 0) = false := by simp [k0]
            have e1 : (d.kind == 1) = false := by simp [k1]
            have e2 : (d.kind == 2) = false := by simp [k2]
            clear k0 k1 k2
            go_wp2_with fail
            go_roundw
            case rel => exact ⟨k + 1, _, _, by omega, by omega, by go_num, rfl, rfl, _, F4.out, hL60, HS.out, by omega, by omega, by omega, by omega⟩
            case measure => simp [intOf]; omega
    · have bx := hbx.out
      have z0 := (HF.out.1.cell (p := ⟨w.heap.size, 0, none⟩) (by exact hs0)).trans (bx.cell 0)
      have z1 := (HF.out.1.cell (p := ⟨w.heap.size, 1, none⟩) (by exact hs0)).trans (bx.cell 1)
      have z2 := (HF.out.1.cell (p := ⟨w.heap.size, 2, none⟩) (by exact hs0)).trans (bx.cell 2)
      simp at z0 z1 z2
      have hsz := HF.out.1.size
      have hsw : w.heap.size < wr.heap.size := by omega
      have heq : (ii - oo == (countP ⟨src, dst, data⟩ L : Int)) = true := by have := HS.out; simp only [beq_iff_eq]; exact this
      have wr1 : IntKind.i64.wrap (ii - oo) = ii - oo := IntWalk.i64_in _ (by omega)
      clear bx
      by_cases hkn : k < n
      case' pos =>
        have d1 : decide ((k : Int) < (n : Int)) = true := by simp; omega
        have d2 : decide ((k : Int) < 90) = false := by simp; omega
        have i2 : ¬ (k : Int) < 90 := by omega
      case' neg =>
        have d1 : decide ((k : Int) < (n : Int)) = false := by simp; omega
        have i2 : ¬ (k : Int) < (n : Int) := by omega
      all_goals
        clear hlt
        go_wp2_with fail
        go_region_held3 (fun w' => w'.cell? ⟨w.heap.size, 0, none⟩ = some (.int .i64 src) ∧ w'.cell? ⟨w.heap.size, 1, none⟩ = some (.int .i64 dst) ∧ w'.cell? ⟨w.heap.size, 2, none⟩ = some (.string data)) (first | go_keep | exact ⟨q0, q1, q2⟩ | exact ⟨r0, r1, r2⟩ | exact ⟨s0, s1, s2⟩) ((first | (go_at_call 9; refine (cnt_all (lives_below HF.out (Below.refl _ _).drew) hL60).mono ?_; rintro e w6 ⟨A6, c6, rfl, s6, f6, b6⟩; have q0 := (b6.cell (p := ⟨w.heap.size, 0, none⟩) (show w.heap.size < wr.heap.size by omega)).trans z0; have q1 := (b6.cell (p := ⟨w.heap.size, 1, none⟩) (show w.heap.size < wr.heap.size by omega)).trans z1; have q2 := (b6.cell (p := ⟨w.heap.size, 2, none⟩) (show w.heap.size < wr.heap.size by omega)).trans z2; have S6 := Lib.hid s6; have F6 := Lib.hid f6; have B6 := Lib.hid b6; clear s6 f6 b6) | (go_at_call 13; refine (cnt_count ⟨src, dst, data⟩ S6.out hL60).mono ?_; rintro e w7 ⟨rfl, b7⟩; have r0 := (b7.cell (p := ⟨w.heap.size, 0, none⟩) (by have : wr.heap.size ≤ w6.heap.size := B6.out.size; show w.heap.size < w6.heap.size; omega)).trans q0; have r1 := (b7.cell (p := ⟨w.heap.size, 1, none⟩) (by have : wr.heap.size ≤ w6.heap.size := B6.out.size; show w.heap.size < w6.heap.size; omega)).trans q1; have r2 := (b7.cell (p := ⟨w.heap.size, 2, none⟩) (by have : wr.heap.size ≤ w6.heap.size := B6.out.size; show w.heap.size < w6.heap.size; omega)).trans q2; have B7 := Lib.hid b7; clear b7 q0 q1 q2) | (go_at_call 10; refine (lives_any _).mono ?_; rintro e w8 ⟨rfl, b8⟩; have hs8 : w.heap.size < w7.heap.size := (by have h1 : wr.heap.size ≤ w6.heap.size := B6.out.size; have h2 : w6.heap.size ≤ w7.heap.size := B7.out.size; omega); have s0 := (b8.cell (p := ⟨w.heap.size, 0, none⟩) hs8).trans r0; have s1 := (b8.cell (p := ⟨w.heap.size, 1, none⟩) hs8).trans r1; have s2 := (b8.cell (p := ⟨w.heap.size, 2, none⟩) hs8).trans r2; have B8 := Lib.hid b8; clear b8 r0 r1 r2)))
        go_wp2_with fail
        go_ret
        refine ⟨rfl, hb0.out.trans (Below.mono (B := w0.heap.size) ?_ (by omega))⟩
        have f7 := (lives_below F6.out B7.out).1
        exact f7.trans (B8.out.mono f7.size)
end Go.Proofs.Ytnccgbcmencncaa
