/- slices.Clone, slices.MinFunc, at tokens: the walks. -/
import Derived.Test.YtffmhejkhimkcaaC4
set_option linter.unusedVariables false
namespace Go.Proofs.Ytffmhejkhimkcaa
open Go.RowKit

set_option maxHeartbeats 1000000 in
theorem clone_any (base : Nat) (v : Value) (l : List Kt) (w : World) (hown : w.ownsRow base 27 7 v l.length (kts l)) (hl : l.length ≤ 1000) :
    Calls Try.prog 23 #[v] w fun e w' => ∃ v', e = .returned v' ∧ w'.ownsRow w.heap.size 27 7 v' l.length (kts l) ∧ Below w.heap.size w w' := by
  obtain ⟨i0, hi0, hz0, hz1, hz2⟩ := info_parts Try.info27
  have hq := fun (wx : World) (A : Option Addr) (n c : Nat) => Lib.run_eql_slice_nil (P := Try.prog) wx 22 27 A n c 0 0 Try.underlying22
  rcases hown.2 with ⟨rfl, h0⟩ | ⟨g, cap, cur, rfl, _⟩
  · go_enter Try.func23, Try.ntmps23
    go_wp2
    go_ret
    exact ⟨_, rfl, ⟨hown.1, .inl ⟨rfl, h0⟩⟩, Below.refl _ _⟩
  · have HO := Lib.hid hown
    clear hown
    go_enter Try.func23, Try.ntmps23
    go_wp2_with (at_builtin; refine wpList_append_own _ rfl (.tmp 5) (.tmp 6) 22 rfl w.heap.size 27 i0 _ 7 80 Try.underlying22 hi0 hz0 hz1 hz2 rfl (by omega) _ 0 [] rfl (World.ownsRow_made w #[] 0 (Nat.le_refl _) (by omega) rfl) ⟨g, 0, none⟩ l.length cap (kts l) rfl (kts_len l) ?c1 ?c2 ?c3 ?c4 ?c5 ?_)
    case c1 => exact fun j u hu => (World.cell?_alloc_lt w _ _ (by
      have h1 := (HO.out.lt g rfl).2
      rw [block_of_add]; exact h1)).trans (HO.out.cells (g := g) rfl j u hu)
    case c2 => exact kts_one_cell l
    case c3 => unfold maxLen; omega
    case c4 => omega
    case c5 => simp
    intro v1 w1 hown1 hgrow1 _
    go_wp2
    go_ret
    exact ⟨_, rfl, hown1, ((Below.refl _ _).alloc (Nat.le_refl _) _).grown hgrow1 (by simp) (by simp [Value.ownBlock])⟩

theorem cmp_any (a b : Kt) (W : World) (h : 0 ≤ a.used ∧ a.used ≤ 1000000) (h' : 0 ≤ b.used ∧ b.used ≤ 1000000) : Calls Try.prog 22 #[a.agg, b.agg] W fun e w' => e = .returned (.int .i64 (a.used - b.used)) ∧ Below W.heap.size W w' := by
  have ws : IntKind.i64.wrap (a.used - b.used) = a.used - b.used := IntWalk.i64_in _ (by omega)
  go_enter Try.func22, Try.ntmps22
  go_wp2_with fail
  go_ret
  exact ⟨rfl, ((Below.refl _ _).alloc (Nat.le_refl _) _).alloc (by rw [World.size_alloc]; omega) _⟩

/-- The one of the least use, of m and those of a list: the first one. -/
def best : List Kt → Kt → Kt
  | [], m => m
  | x :: r, m => best r (if x.used < m.used then x else m)
def minK : List Kt → Kt
  | [] => default
  | x :: r => best r x
theorem best_drop (l : List Kt) (k : Nat) (h : k < l.length) (m : Kt) : best (l.drop k) m = best (l.drop (k + 1)) (if l[k].used < m.used then l[k] else m) := by
  rw [List.drop_eq_getElem_cons h]
  rfl
theorem minK_drop (l : List Kt) (h : 0 < l.length) : best (l.drop 1) l[0] = minK l := by
  match l, h with
  | x :: r, _ => rfl

theorem Below.setCells_ {a : World} {g : Nat} : ∀ (vs : List Value) (o : Nat) (w : World), a.heap.size ≤ g → Below a.heap.size a w → Below a.heap.size a (w.setCells g o vs)
  | [], _, _, _, h => h
  | v :: vs, o, _, hg, h => Below.setCells_ vs (o + 1) _ hg (h.setCell (p := ⟨g, o, none⟩) hg v)
theorem splice_all (x m : Kt) : splice (m.cells).toArray 0 x.cells = (x.cells).toArray := by
  unfold splice Kt.cells
  rfl

theorem setKt0_eq (w : World) (g : Nat) (x : Kt) : (((((((w.setCell ⟨g, 0, none⟩ (.int .i64 x.entry)).setCell ⟨g, 1, none⟩ (.string x.aud)).setCell ⟨g, 2, none⟩ (.string x.token)).setCell ⟨g, 3, none⟩ (.int .i64 x.iat)).setCell ⟨g, 4, none⟩ (.int .i64 x.exp)).setCell ⟨g, 5, none⟩ (.int .i64 x.used)).setCell ⟨g, 6, none⟩ (.string x.needs)) = w.setCells g 0 x.cells := rfl
theorem splice_zc (x : Kt) : splice zc 0 x.cells = (x.cells).toArray := by
  unfold splice Kt.cells zc
  rfl

set_option maxRecDepth 100000 in
set_option maxHeartbeats 4000000 in
theorem min_any (g cap : Nat) (l : List Kt) (w : World) (hc : CellsAt w g l) (hg : g < w.heap.size) (hpos : 0 < l.length) (hl : l.length ≤ 1000000) (hu : ∀ i, (h : i < l.length) → 0 ≤ l[i].used ∧ l[i].used ≤ 1000000) :
    Calls Try.prog 21 #[.slice (some ⟨g, 0, none⟩) l.length cap, .func (.func 22) #[] #[]] w fun e w' => e = .returned (minK l).agg ∧ Below w.heap.size w w' := by
  have HU := Lib.hid hu
  have HC := Lib.hid hc
  have p0 : (0 : Int) < (l.length : Int) := by omega
  have p1 : ¬ (l.length : Int) < 1 := by omega
  have hM := minK_drop l hpos
  have hu0 := HU.out 0 hpos
  obtain ⟨x0, x1, x2, x3, x4, x5, x6⟩ := hc 0 hpos
  simp only [Nat.zero_mul, Nat.zero_add] at x0 x1 x2 x3 x4 x5 x6
  clear hu hc
  generalize hx0 : l[0] = y at *
  have HM := Lib.hid hM
  clear hM hx0
  have eg : ∀ args w, (callFunc 22 args).run Try.prog w = .ok (.enter 22 args) w := enters_of Try.func22 (by kernel_rfl) rfl
  go_enter Try.func21, Try.ntmps21
  go_upto_region 4 with fail
  have BZ : Hid (Blk ((w.alloc (.cells #[.int .i64 0, .string ⟨#[]⟩, .string ⟨#[]⟩, .int .i64 0, .int .i64 0, .int .i64 0, .string ⟨#[]⟩] 27)).alloc (.cells #[.int .i64 y.entry, .string y.aud, .string y.token, .int .i64 y.iat, .int .i64 y.exp, .int .i64 y.used, .string y.needs] 27)) w.heap.size 27 zc) := Lib.hid ((Blk.new w 27 zc).alloc _)
  have BM : Hid (Blk ((w.alloc (.cells #[.int .i64 0, .string ⟨#[]⟩, .string ⟨#[]⟩, .int .i64 0, .int .i64 0, .int .i64 0, .string ⟨#[]⟩] 27)).alloc (.cells #[.int .i64 y.entry, .string y.aud, .string y.token, .int .i64 y.iat, .int .i64 y.exp, .int .i64 y.used, .string y.needs] 27)) (w.heap.size + 1) 27 (y.cells).toArray) := Lib.hid (by
    have := Blk.new (w.alloc (.cells #[.int .i64 0, .string ⟨#[]⟩, .string ⟨#[]⟩, .int .i64 0, .int .i64 0, .int .i64 0, .string ⟨#[]⟩] 27)) 27 (y.cells).toArray
    rw [World.size_alloc] at this
    exact this)
  have B0 : Hid (Below w.heap.size w ((w.alloc (.cells #[.int .i64 0, .string ⟨#[]⟩, .string ⟨#[]⟩, .int .i64 0, .int .i64 0, .int .i64 0, .string ⟨#[]⟩] 27)).alloc (.cells #[.int .i64 y.entry, .string y.aud, .string y.token, .int .i64 y.iat, .int .i64 y.exp, .int .i64 y.used, .string y.needs] 27))) := Lib.hid (((Below.refl _ _).alloc (Nat.le_refl _) _).alloc (by rw [World.size_alloc]; omega) _)
  generalize ((w.alloc (.cells #[.int .i64 0, .string ⟨#[]⟩, .string ⟨#[]⟩, .int .i64 0, .int .i64 0, .int .i64 0, .string ⟨#[]⟩] 27)).alloc (.cells #[.int .i64 y.entry, .string y.aud, .string y.token, .int .i64 y.iat, .int .i64 y.exp, .int .i64 y.used, .string y.needs] 27)) = W0 at *
  clear x0 x1 x2 x3 x4 x5 x6
  have U0 := Lib.hid hu0
  clear hu0 p0 p1
  go_wp2_with fail
  go_loopw [6] (fun q wr => ∃ (k : Nat) (m : Kt), 1 ≤ k ∧ k ≤ l.length ∧ q = .int .i64 k ∧ Hid (Blk wr (w.heap.size + 1) 27 (m.cells).toArray) ∧ Hid (Blk wr w.heap.size 27 zc) ∧ Hid (best (l.drop k) m = minK l) ∧ Hid (0 ≤ m.used ∧ m.used ≤ 1000000) ∧ Hid (Below w.heap.size w wr)) (fun q _ => l.length - (intOf q).toNat)
  case atStart => exact ⟨1, y, by omega, by omega, rfl, BM, BZ, HM, U0, B0⟩
  case round =>
    clear BM BZ HM U0 B0
    obtain ⟨k, m, hk1, hk, rfl, bm, bz, hm, um, bb⟩ := hrel
    have m0 := bm.out.cell 0
    have m1 := bm.out.cell 1
    have m2 := bm.out.cell 2
    have m3 := bm.out.cell 3
    have m4 := bm.out.cell 4
    have m5 := bm.out.cell 5
    have m6 := bm.out.cell 6
    simp only [Kt.cells, List.getElem?_toArray, List.getElem?_cons_zero, List.getElem?_cons_succ] at m0 m1 m2 m3 m4 m5 m6
    by_cases hlt : k < l.length
    · have k0 : (0 : Int) ≤ (k : Int) := by omega
      have k1 : (k : Int) < (l.length : Int) := by omega
      have XX := Lib.hid ((HC.out k hlt).below bb.out hg)
      have UX := Lib.hid (HU.out k hlt)
      have BD := Lib.hid (best_drop l k hlt m)
      obtain ⟨x0, x1, x2, x3, x4, x5, x6⟩ := XX.out
      generalize l[k] = x at *
      have hgw := Nat.lt_of_lt_of_le hg bb.out.size
      have hbw := bm.out.lt
      by_cases hless : x.used < m.used
      · have e1 : x.used - m.used < 0 := by omega
        have E1 := Lib.hid e1
        have HN : Hid (best (l.drop (k + 1)) x = minK l) := Lib.hid (by rw [← hm.out, BD.out, if_pos hless])
        clear BD hless
        go_upto_region 7 with fail
        go_cut [27] from 14 to 31 (fun c w2 => c = .bool true ∧ Below wr.heap.size wr w2)
        case first =>
          go_region_with (go_at_call 22; refine (cmp_any x m _ UX.out um.out).mono ?_; rintro e w2 ⟨rfl, hb⟩; have HB2 := Lib.hid hb; clear hb)
          all_goals (go_wp2_with fail)
          all_goals go_meet
          all_goals exact ⟨by first | rfl | exact congrArg Value.bool (decide_eq_true E1.out), (Below.refl _ wr).drew.trans HB2.out⟩
        case rest =>
        obtain ⟨rfl, hb2⟩ := hcut
        clear x0 x1 x2 x3 x4 x5 x6 m0 m1 m2 m3 m4 m5 m6
        obtain ⟨x0, x1, x2, x3, x4, x5, x6⟩ := XX.out.below hb2 hgw
        have bm2 : Hid (Blk wc (w.heap.size + 1) 27 (m.cells).toArray) := Lib.hid ((hb2.block _ hbw).trans bm.out)
        have m0 := bm2.out.cell 0
        have m1 := bm2.out.cell 1
        have m2 := bm2.out.cell 2
        have m3 := bm2.out.cell 3
        have m4 := bm2.out.cell 4
        have m5 := bm2.out.cell 5
        have m6 := bm2.out.cell 6
        simp only [Kt.cells, List.getElem?_toArray, List.getElem?_cons_zero, List.getElem?_cons_succ] at m0 m1 m2 m3 m4 m5 m6
        have f0 := bm2.out.frozen 0
        have f1 := bm2.out.frozen 1
        have f2 := bm2.out.frozen 2
        have f3 := bm2.out.frozen 3
        have f4 := bm2.out.frozen 4
        have f5 := bm2.out.frozen 5
        have f6 := bm2.out.frozen 6
        have HB := Lib.hid hb2
        clear hb2
        go_wp2_with fail
        go_roundw
        case rel =>
          refine ⟨k + 1, x, by omega, by omega, by go_num, Lib.hid ?_, Lib.hid ?_, HN, UX, Lib.hid ?_⟩
          · have := Blk.setCells x.cells 0 _ _ bm2.out (Nat.le_refl 7)
            rw [splice_all] at this
            exact this
          · exact (((((((show Blk wc w.heap.size 27 zc from (HB.out.block _ bz.out.lt).trans bz.out).far (p := ⟨w.heap.size + 1, 0, none⟩) (by show _ ≠ _ + 1; omega) _).far (p := ⟨w.heap.size + 1, 1, none⟩) (by show _ ≠ _ + 1; omega) _).far (p := ⟨w.heap.size + 1, 2, none⟩) (by show _ ≠ _ + 1; omega) _).far (p := ⟨w.heap.size + 1, 3, none⟩) (by show _ ≠ _ + 1; omega) _).far (p := ⟨w.heap.size + 1, 4, none⟩) (by show _ ≠ _ + 1; omega) _).far (p := ⟨w.heap.size + 1, 5, none⟩) (by show _ ≠ _ + 1; omega) _).far (p := ⟨w.heap.size + 1, 6, none⟩) (by show _ ≠ _ + 1; omega) _
          · exact Below.setCells_ x.cells 0 _ (by omega) (bb.out.trans (HB.out.mono bb.out.size))
        case measure => simp [intOf]; omega
      · have e1 : ¬ x.used - m.used < 0 := by omega
        have E1 := Lib.hid e1
        have HN : Hid (best (l.drop (k + 1)) m = minK l) := Lib.hid (by rw [← hm.out, BD.out, if_neg hless])
        clear BD hless
        go_upto_region 7 with fail
        go_cut [27] from 14 to 31 (fun c w2 => c = .bool false ∧ Below wr.heap.size wr w2)
        case first =>
          go_region_with (go_at_call 22; refine (cmp_any x m _ UX.out um.out).mono ?_; rintro e w2 ⟨rfl, hb⟩; have HB2 := Lib.hid hb; clear hb)
          all_goals (go_wp2_with fail)
          all_goals go_meet
          all_goals exact ⟨by first | rfl | exact congrArg Value.bool (decide_eq_false (Int.not_lt.2 E1.out)), (Below.refl _ wr).drew.trans HB2.out⟩
        case rest =>
        obtain ⟨rfl, hb2⟩ := hcut
        clear x0 x1 x2 x3 x4 x5 x6 m0 m1 m2 m3 m4 m5 m6
        have HB := Lib.hid hb2
        clear hb2
        go_wp2_with fail
        go_roundw
        case rel => exact ⟨k + 1, m, by omega, by omega, by go_num, Lib.hid ((HB.out.block _ hbw).trans bm.out), Lib.hid ((HB.out.block _ bz.out.lt).trans bz.out), HN, um, Lib.hid (bb.out.trans (HB.out.mono bb.out.size))⟩
        case measure => simp [intOf]; omega
    · have k1 : ¬ (k : Int) < (l.length : Int) := by omega
      have z0 := bz.out.cell 0
      have z1 := bz.out.cell 1
      have z2 := bz.out.cell 2
      have z3 := bz.out.cell 3
      have z4 := bz.out.cell 4
      have z5 := bz.out.cell 5
      have z6 := bz.out.cell 6
      simp only [zc, List.getElem?_toArray, List.getElem?_cons_zero, List.getElem?_cons_succ] at z0 z1 z2 z3 z4 z5 z6
      have f0 := bz.out.frozen 0
      have f1 := bz.out.frozen 1
      have f2 := bz.out.frozen 2
      have f3 := bz.out.frozen 3
      have f4 := bz.out.frozen 4
      have f5 := bz.out.frozen 5
      have f6 := bz.out.frozen 6
      have hd : Hid (m = minK l) := Lib.hid (by rw [← hm.out, List.drop_eq_nil_of_le (by omega)]; rfl)
      have hbw := bz.out.lt
      go_wp2_with fail
      rw [setKt0_eq]
      have bz2 := Blk.setCells m.cells 0 _ _ bz.out (Nat.le_refl 7)
      have b2 : Below w.heap.size w (wr.setCells w.heap.size 0 m.cells) := Below.setCells_ m.cells 0 _ (Nat.le_refl _) bb.out
      rw [splice_zc] at bz2
      clear z0 z1 z2 z3 z4 z5 z6 f0 f1 f2 f3 f4 f5 f6
      generalize wr.setCells w.heap.size 0 m.cells = W9 at *
      have z0 := bz2.cell 0
      have z1 := bz2.cell 1
      have z2 := bz2.cell 2
      have z3 := bz2.cell 3
      have z4 := bz2.cell 4
      have z5 := bz2.cell 5
      have z6 := bz2.cell 6
      simp only [Kt.cells, List.getElem?_toArray, List.getElem?_cons_zero, List.getElem?_cons_succ] at z0 z1 z2 z3 z4 z5 z6
      refine bodyPost_ret (v := m.agg) (by simp [results, Try.results21, go_sem, z0, z1, z2, z3, z4, z5, z6]) rfl ⟨by rw [hd.out], b2⟩
end Go.Proofs.Ytffmhejkhimkcaa
