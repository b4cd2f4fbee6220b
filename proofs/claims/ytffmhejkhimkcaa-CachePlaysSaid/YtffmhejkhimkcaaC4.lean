/- slices.DeleteFunc, at tokens: the walk. -/
import Derived.Test.YtffmhejkhimkcaaC3
set_option linter.unusedVariables false
namespace Go.Proofs.Ytffmhejkhimkcaa
open Go.RowKit

/-- What DeleteFunc leaves. -/
def DelP (base : Nat) (v : Value) (l' : List Kt) (w : World) (e : Ending) (w' : World) : Prop :=
  ∃ v', e = .returned v' ∧ w'.ownsRow base 27 7 v' l'.length (kts l') ∧ Only (fun k => v.ownBlock = some k) w w' ∧ ∀ k, v'.ownBlock = some k → v.ownBlock = some k

theorem box_kat (w : World) (x : Kt) : KAt (w.alloc (.cells (x.cells).toArray 27)) w.heap.size 0 x := by
  have h := Blk.new w 27 (x.cells).toArray
  refine kat_of fun j u hu => ?_
  rw [h.cell, Nat.zero_add]
  simpa using hu

theorem setKt_eq (w : World) (g o : Nat) (x : Kt) : (((((((w.setCell ⟨g, o, none⟩ (.int .i64 x.entry)).setCell ⟨g, o + 1, none⟩ (.string x.aud)).setCell ⟨g, o + 2, none⟩ (.string x.token)).setCell ⟨g, o + 3, none⟩ (.int .i64 x.iat)).setCell ⟨g, o + 4, none⟩ (.int .i64 x.exp)).setCell ⟨g, o + 5, none⟩ (.int .i64 x.used)).setCell ⟨g, o + 6, none⟩ (.string x.needs)) = w.setCells g o x.cells := rfl

set_option maxRecDepth 100000 in
set_option maxHeartbeats 4000000 in
theorem delete_any (I : World → Prop) (f : Nat) (lb : Array Value) (p : Kt → Bool) (hp : Pred I f lb p) (base : Nat) (v : Value) (l : List Kt) (w : World) (hI : I w) (hl : l.length ≤ 1000000) (hown : w.ownsRow base 27 7 v l.length (kts l)) (hset : ∀ W g o vs, v.ownBlock = some g → I W → I (W.setCells g o vs)) :
    Calls Try.prog 18 #[v, .func (.func f) #[] lb] w (DelP base v (keptOf p l) w) := by
  rcases hown.2 with ⟨rfl, h0⟩ | ⟨g, cap, cur, rfl, hbase, hblk, hlc, hcm, hsz, htk⟩
  · have hn : l = [] := List.eq_nil_of_length_eq_zero h0
    subst hn
    have C : Hid (Calls Try.prog 24 #[.slice none 0 0, .func (.func f) #[] lb] w fun e w' => ∃ r, e = .returned (.int .i64 r) ∧ Idx p [] r ∧ Below w.heap.size w w') := Lib.hid (index_any I f lb p hp none [] 0 w hI (by decide) (fun h => absurd h (Nat.lt_irrefl 0)))
    go_enter Try.func18, Try.ntmps18
    go_upto_region 2 with (go_at_call 24; (with_reducible refine C.out.mono ?_); rintro e w1 ⟨r, rfl, hr, hb⟩; have HR := Lib.hid hr; have HB := Lib.hid hb; clear hr hb)
    have hr : r = -1 := by
      rcases HR.out with ⟨h, _⟩ | ⟨k, _, h, _⟩
      · exact h
      · exact absurd h (Nat.not_lt_zero k)
    subst hr
    go_wp2_with fail
    go_ret
    exact ⟨_, rfl, ⟨rfl, .inl ⟨rfl, rfl⟩⟩, Only.of_below HB.out, fun k hk => hk⟩
  · have hcells := cellsAt hown
    have hg := (hown.lt g rfl).2
    have C := Lib.hid (index_any I f lb p hp (some ⟨g, 0, none⟩) l cap w hI hl (fun _ => ⟨g, rfl, hg, hcells⟩))
    have HI := Lib.hid hI
    have KEEP := Lib.hid hp.keep
    have CALL := Lib.hid hp.call
    have SET := Lib.hid (fun W o vs => hset W g o vs rfl)
    have HO := Lib.hid hown
    have START : Hid (∀ w1 k, Below w.heap.size w w1 → (h : k < l.length) → p l[k] = true → (∀ j, (hj : j < k) → p (l[j]'(Nat.lt_trans hj h)) = false) → Half w g cap p l k (k + 1) w1) := Lib.hid fun w1 k hb h h1 h2 => by
      obtain ⟨cur, _, c2, c3, c4, c5, c6⟩ := own_cur hown
      exact ⟨Nat.lt_succ_self k, h, ⟨l, cur, rfl, (hb.block g hg).trans c2, c5, c6, (kept_first p l k h h1 h2).symm, fun _ _ => rfl⟩, Only.of_below hb⟩
    have eg := hp.enters
    have hcm2 : cap ≤ 9223372036854775807 := by unfold maxLen at hcm; omega
    have HCM := Lib.hid hcm
    clear hI hp hset hown hblk hsz htk hcells hcm
    go_enter Try.func18, Try.ntmps18
    go_upto_region 2 with (go_at_call 24; (with_reducible refine C.out.mono ?_); rintro e w1 ⟨r, rfl, hr, hb⟩; have HR := Lib.hid hr; have HB := Lib.hid hb; clear hr hb)
    rcases HR.out with ⟨rfl, hn⟩ | ⟨k, rfl, hk, h1, h2⟩
    · have HN := Lib.hid (kept_none p l hn)
      clear hn
      go_wp2_with fail
      go_ret
      exact ⟨_, rfl, by rw [HN.out]; exact own_only HO.out (F := fun _ => False) (Only.of_below HB.out) (fun _ _ h => h), Only.of_below HB.out, fun k hk => hk⟩
    · have H0 := Lib.hid (START.out w1 k HB.out hk h1 h2)
      have I1 := Lib.hid (KEEP.out w w1 HI.out HB.out)
      have kne : ((k : Int) == -1) = false := by simp only [beq_eq_false_iff_ne, ne_eq]; omega
      have wk : IntKind.i64.wrap ((k : Int) + 1) = (k : Int) + 1 := IntWalk.i64_in _ (by omega)
      clear h1 h2 START HR
      go_wp2_with fail
      clear wk kne
      go_loopw [5, 6] (fun iv jv wr => ∃ i j : Nat, iv = .int .i64 i ∧ jv = .int .i64 j ∧ Half w g cap p l i j wr ∧ I wr) (fun _ jv _ => l.length - (intOf jv).toNat)
      case atStart => exact ⟨k, k + 1, rfl, by go_num, H0.out, I1.out⟩
      case round =>
        obtain ⟨i, j, rfl, rfl, hh, hi⟩ := hrel
        have hij := hh.lt
        have hjl := hh.le
        have i0 : (0 : Int) ≤ (i : Int) := by omega
        have j0 : (0 : Int) ≤ (j : Int) := by omega
        by_cases hlt : j < l.length
        · have j1 : (j : Int) < (l.length : Int) := by omega
          have i1 : (i : Int) < (l.length : Int) := by omega
          obtain ⟨x0, x1, x2, x3, x4, x5, x6⟩ := hh.kat hlt
          have HH := Lib.hid hh
          have HI := Lib.hid hi
          have SK : Hid (p l[j] = true → ∀ wx, Half w g cap p l i j wx → Half w g cap p l i (j + 1) wx) := Lib.hid fun h wx hx => hx.skip hlt h
          have TK : Hid (p l[j] = false → ∀ wx, Half w g cap p l i j wx → Half w g cap p l (i + 1) (j + 1) (wx.setCells g (i * 7) (l[j]).cells)) := Lib.hid fun h wx hx => hx.take hlc hlt h
          clear hh hi
          generalize l[j] = x at *
          go_upto_region 8 with fail
          have B1 := (Below.refl wr.heap.size wr).alloc (Nat.le_refl _) (.cells #[.int .i64 x.entry, .string x.aud, .string x.token, .int .i64 x.iat, .int .i64 x.exp, .int .i64 x.used, .string x.needs] 27)
          have BK : Hid (KAt (wr.alloc (.cells #[.int .i64 x.entry, .string x.aud, .string x.token, .int .i64 x.iat, .int .i64 x.exp, .int .i64 x.used, .string x.needs] 27)) wr.heap.size 0 x) := Lib.hid (box_kat wr x)
          have I1 := KEEP.out _ _ HI.out B1
          have H1 := Lib.hid (HH.out.below B1)
          have CC := Lib.hid (CALL.out _ x I1)
          have II1 := Lib.hid I1
          have hlt1 : wr.heap.size < (wr.alloc (.cells #[.int .i64 x.entry, .string x.aud, .string x.token, .int .i64 x.iat, .int .i64 x.exp, .int .i64 x.used, .string x.needs] 27)).heap.size := by rw [World.size_alloc]; omega
          clear x0 x1 x2 x3 x4 x5 x6 B1 I1
          generalize wr.alloc (.cells #[.int .i64 x.entry, .string x.aud, .string x.token, .int .i64 x.iat, .int .i64 x.exp, .int .i64 x.used, .string x.needs] 27) = W1 at *
          generalize wr.heap.size = B at *
          obtain ⟨y0, y1, y2, y3, y4, y5, y6⟩ := BK.out
          simp only [Nat.zero_add] at y1 y2 y3 y4 y5 y6
          have hil : i < l.length := by omega
          cases hpx : p x with
          | true =>
            rw [hpx] at CC
            have SK2 := Lib.hid (SK.out hpx)
            clear hpx TK
            go_wp2_with (go_at_fn f; refine CC.out.mono ?_; rintro e w2 ⟨rfl, hb'⟩; have HB2 := Lib.hid hb'; clear hb')
            go_roundw
            case rel => exact ⟨i, j + 1, rfl, by go_num, SK2.out _ (H1.out.below HB2.out), KEEP.out _ _ II1.out HB2.out⟩
            case measure => simp [intOf]; omega
          | false =>
            rw [hpx] at CC
            have TK2 := Lib.hid (TK.out hpx)
            clear hpx SK
            go_upto_region 9 with (go_at_fn f; refine CC.out.mono ?_; rintro e w2 ⟨rfl, hb'⟩; have HB2 := Lib.hid hb'; clear hb')
            clear y0 y1 y2 y3 y4 y5 y6
            obtain ⟨y0, y1, y2, y3, y4, y5, y6⟩ := BK.out.below HB2.out hlt1
            simp only [Nat.zero_add] at y1 y2 y3 y4 y5 y6
            have H2 := Lib.hid (H1.out.below HB2.out)
            obtain ⟨s0, f0⟩ := H2.out.has hlc (i * 7) (by omega)
            obtain ⟨s1, f1⟩ := H2.out.has hlc (i * 7 + 1) (by omega)
            obtain ⟨s2, f2⟩ := H2.out.has hlc (i * 7 + 2) (by omega)
            obtain ⟨s3, f3⟩ := H2.out.has hlc (i * 7 + 3) (by omega)
            obtain ⟨s4, f4⟩ := H2.out.has hlc (i * 7 + 4) (by omega)
            obtain ⟨s5, f5⟩ := H2.out.has hlc (i * 7 + 5) (by omega)
            obtain ⟨s6, f6⟩ := H2.out.has hlc (i * 7 + 6) (by omega)
            obtain ⟨t0, s0⟩ := Option.isSome_iff_exists.1 s0
            obtain ⟨t1, s1⟩ := Option.isSome_iff_exists.1 s1
            obtain ⟨t2, s2⟩ := Option.isSome_iff_exists.1 s2
            obtain ⟨t3, s3⟩ := Option.isSome_iff_exists.1 s3
            obtain ⟨t4, s4⟩ := Option.isSome_iff_exists.1 s4
            obtain ⟨t5, s5⟩ := Option.isSome_iff_exists.1 s5
            obtain ⟨t6, s6⟩ := Option.isSome_iff_exists.1 s6
            have i1 : (i : Int) < (l.length : Int) := by omega
            go_wp2_with fail
            go_roundw
            case rel =>
              refine ⟨i + 1, j + 1, by go_num, by go_num, ?_, ?_⟩
              · rw [setKt_eq]
                exact TK2.out _ H2.out
              · rw [setKt_eq]
                exact SET.out _ _ _ (KEEP.out _ _ II1.out HB2.out)
            case measure => simp [intOf]; omega
        · have j1 : ¬ (j : Int) < (l.length : Int) := by omega
          have hjn : j = l.length := by omega
          subst hjn
          have hcell := fun k hk => hh.has hlc k hk
          have HD := Lib.hid (hh.done base hlc HCM.out hbase)
          have hcl : Hid (∀ ty, _) := Lib.hid fun ty => run_clear wr ty g (i * 7) (l.length - i) (cap - i) (by omega) (fun j hj => (hcell _ (by omega)).1) (fun j hj => (hcell _ (by omega)).2)
          have hci : ¬ cap = i := by omega
          have hil2 : i ≤ l.length := by omega
          have i1 : (i : Int) ≤ (l.length : Int) := by omega
          have i2 : (i : Int) ≤ (cap : Int) := by omega
          clear hh hi hcell
          go_wp2_with (with_reducible refine wpList_clear rfl (.tmp 38) rfl ⟨g, i * 7, none⟩ _ _ rfl hcl.out ?_)
          go_ret
          exact ⟨_, rfl, HD.out.2.2.1, HD.out.2.2.2.mono (fun k _ hk => by rw [hk]; rfl), fun k hk => hk⟩
end Go.Proofs.Ytffmhejkhimkcaa
