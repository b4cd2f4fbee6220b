/- ClosureMany: the walk. -/
import Derived.Test.YtcbfmpnkadkpdaaL3
set_option linter.unusedVariables false
namespace Go.Proofs.Ytcbfmpnkadkpdaa
open Go.RowKit

/-- Of more than 100 entries there are none. -/
def NoneP (w : World) (e : Ending) (w' : World) : Prop := e = .returned (.slice none 0 0) ∧ Below w.heap.size w w'

set_option maxRecDepth 100000 in
set_option maxHeartbeats 4000000 in
theorem may_over (A : Option Addr) (c : Nat) (l : List En) (agent : ByteArray) (w : World) (hn : 100 < l.length) :
    Calls Try.prog 13 #[.slice A l.length c, .string agent] w (NoneP w) := by
  have k1 : (l.length : Int) > 100 := by omega
  go_enter Try.func13, Try.ntmps13
  go_wp2_with fail
  go_ret
  exact ⟨rfl, Below.refl _ _⟩

set_option maxRecDepth 100000 in
set_option maxHeartbeats 4000000 in
theorem chain_over (A : Option Addr) (c : Nat) (l : List En) (n : Int) (agent : ByteArray) (w : World) (h : EnsAt w A l) (hn : 100 < l.length) (hn2 : l.length ≤ 1000) :
    Calls Try.prog 10 #[.slice A l.length c, .int .i64 n, .string agent] w (NoneP w) := by
  have hb2 : Below w.heap.size w ((w.alloc (.cells #[.slice A l.length c] 22)).alloc (.cells #[.int .i64 n] 3)) := ((Below.refl _ _).alloc (Nat.le_refl _) _).alloc (by rw [World.size_alloc]; omega) _
  have B3 : Hid (Blk ((w.alloc (.cells #[.slice A l.length c] 22)).alloc (.cells #[.int .i64 n] 3)) w.heap.size 22 #[.slice A l.length c]) := Lib.hid ((Blk.new w 22 _).alloc _)
  have B4 : Hid (Blk ((w.alloc (.cells #[.slice A l.length c] 22)).alloc (.cells #[.int .i64 n] 3)) (w.heap.size + 1) 3 #[.int .i64 n]) := Lib.hid (by
    have := Blk.new (w.alloc (.cells #[.slice A l.length c] 22)) 3 #[.int .i64 n]
    rw [World.size_alloc] at this
    exact this)
  have C := Lib.hid (index_any _ 20 _ _ l (isN_pred (w.heap.size + 1) n l) A c _ B4.out (by omega) (h.below hb2))
  have HB2 := Lib.hid hb2
  clear h hb2
  go_enter Try.func10, Try.ntmps10
  go_upto_region 1 with fail
  generalize (w.alloc (.cells #[.slice A l.length c] 22)).alloc (.cells #[.int .i64 n] 3) = W0 at *
  have x3 := B3.out.cell 0
  simp only [List.getElem?_toArray, List.getElem?_cons_zero] at x3
  go_upto_region 2 with (go_at_call 19; (with_reducible refine C.out.mono ?_); rintro e w1 ⟨r, rfl, hr, hb⟩; have HR := Lib.hid hr; have H1 := Lib.hid hb; clear hr hb)
  have B7 : Hid (Blk (w1.alloc (.cells #[.int .i64 r] 3)) w1.heap.size 3 #[.int .i64 r]) := Lib.hid (Blk.new w1 3 _)
  have H2 : Hid (Below W0.heap.size W0 (w1.alloc (.cells #[.int .i64 r] 3))) := Lib.hid (H1.out.alloc H1.out.size _)
  clear H1 C B4
  generalize w1.heap.size = b7 at *
  generalize w1.alloc (.cells #[.int .i64 r] 3) = W1 at *
  have B3' : Hid (Blk W1 w.heap.size 22 #[.slice A l.length c]) := Lib.hid ((H2.out.block _ B3.out.lt).trans B3.out)
  clear x3
  have x3 := B3'.out.cell 0
  have x7 := B7.out.cell 0
  simp only [List.getElem?_toArray, List.getElem?_cons_zero] at x3 x7
  rcases idx_or HR.out with ⟨rfl, hno⟩ | ⟨hat, rfl⟩
  · clear hno
    go_wp2_with fail
    go_ret
    exact ⟨rfl, HB2.out.trans (H2.out.mono HB2.out.size)⟩
  · clear HR
    generalize l.findIdx (isN n) = at0 at *
    have k0 : ¬ (at0 : Int) < 0 := by omega
    have k1 : (l.length : Int) > 100 := by omega
    have k2 : (100 : Int) < (l.length : Int) := by omega
    go_wp2_with fail
    go_ret
    exact ⟨rfl, HB2.out.trans (H2.out.mono HB2.out.size)⟩

abbrev pathP : ByteArray := ⟨#[47, 112]⟩
def manyE (i : Nat) : En := ⟨(i : Int) + 1, pathP, agX, 0, none, 0, []⟩
def manyL (n : Nat) : List En := (List.range n).map manyE
theorem manyL_len (n : Nat) : (manyL n).length = n := by simp [manyL]
theorem manyL_succ (n : Nat) : manyL (n + 1) = manyL n ++ [manyE n] := by simp [manyL, List.range_succ]
theorem manyL_mem {n : Nat} {e : En} (h : e ∈ manyL n) : ∃ i, e = manyE i := by
  obtain ⟨i, _, rfl⟩ := List.mem_map.1 h
  exact ⟨i, rfl⟩
theorem many_may (n : Nat) (d : ByteArray → Option Nat) : mayC agX d (manyL n) = manyL n := by
  unfold mayC
  rw [List.filter_eq_self]
  intro e he
  obtain ⟨i, rfl⟩ := manyL_mem he
  unfold isF stepR
  rw [if_pos (show (manyE i).parent = agX from rfl)]
  rfl
theorem many_at (n : Nat) : manyL (n + 1) = manyE 0 :: (List.range n).map (fun i => manyE (i + 1)) := by
  unfold manyL
  rw [List.range_succ_eq_map, List.map_cons, List.map_map]
  rfl
theorem many_chain (n : Nat) : (chainL agX (wayD agX (manyL (n + 1))) (manyL (n + 1)) 1).length = 1 := by
  have hi : (manyL (n + 1)).findIdx (isN 1) = 0 := by
    rw [many_at]
    rfl
  have h0 : 0 < (manyL (n + 1)).length := by rw [manyL_len]; omega
  have hs : stepR agX (wayD agX (manyL (n + 1))) (manyL (n + 1))[0] = some 1 := by
    have : (manyL (n + 1))[0] = manyE 0 := by simp [many_at]
    rw [this]
    unfold stepR
    rw [if_pos (show (manyE 0).parent = agX from rfl)]
  have hf : farN agX (wayD agX (manyL (n + 1))) (manyL (n + 1)) 0 = 1 := (farN_some (wayD_done _ _) h0 1 (by decide)).2 hs
  unfold chainL
  rw [hi, hf, if_neg (by decide), chainFrom_one]
  rfl
theorem many_sizes (n : Nat) : ∀ e ∈ manyL n, e.path.size ≤ maxLen ∧ e.parent.size ≤ maxLen := by
  intro e he
  obtain ⟨i, rfl⟩ := manyL_mem he
  unfold maxLen
  exact ⟨by show 2 ≤ _; decide, by show 8 ≤ _; decide⟩
theorem many_ens {w : World} {base n c : Nat} {A : Option Addr} (h : w.ownsRow base 28 5 (.slice A (manyL n).length c) (manyL n).length (ens (manyL n))) : EnsAt w A (manyL n) :=
  own_ens h rfl fun e he => by
    obtain ⟨i, rfl⟩ := manyL_mem he
    exact ⟨fun hp => absurd hp (Nat.lt_irrefl 0), Nat.zero_le _, fun _ => ⟨rfl, rfl⟩⟩

set_option maxRecDepth 100000 in
set_option maxHeartbeats 4000000 in
theorem many_walk (n : Int) (W : World) (hn : I64 n) :
    Calls Try.prog 5 #[.int .i64 n] W fun e W' => e = .returned (.bool true) ∧ Below W.heap.size W W' := by
  obtain ⟨i0, hi0, hz0, hz1, hz2⟩ := info_parts Try.info28
  obtain ⟨hn1, hn2⟩ := hn
  go_enter Try.func5, Try.ntmps5
  go_upto_if 8 with fail
  go_cut [0] from 7 (fun v w1 => ∃ m : Int, v = .int .i64 m ∧ 0 ≤ m ∧ m ≤ 9223372036854775807 ∧ w1 = W)
  case first =>
    by_cases h : n < 0
    · go_wp2_with fail
      go_meet
      exact ⟨_, rfl, by omega, by omega, rfl⟩
    · go_wp2_with fail
      go_meet
      exact ⟨_, rfl, by omega, by omega, rfl⟩
  case rest =>
    obtain ⟨m, rfl, m0, m1, rfl⟩ := hcut
    go_upto_region 4 with fail
    obtain ⟨N, hN⟩ : ∃ N : Nat, m % 131 = (N : Int) := ⟨(m % 131).toNat, by omega⟩
    have hNl : N ≤ 130 := by omega
    rw [hN]
    clear hN m0 m1
    go_wp2_with fail
    go_loopw [3, 4] (fun ov q wr => ∃ (k : Nat) (A1 : Option Addr) (c1 : Nat), k ≤ N ∧ q = .int .i64 k ∧ ov = .slice A1 (manyL k).length c1 ∧ Hid (wr.ownsRow wc.heap.size 28 5 (.slice A1 (manyL k).length c1) (manyL k).length (ens (manyL k))) ∧ Hid (Below wc.heap.size wc wr)) (fun _ q _ => N - (intOf q).toNat)
    case atStart => exact ⟨0, none, 0, by omega, rfl, rfl, Lib.hid (World.ownsRow_nil _ _ _ _), Lib.hid (Below.refl _ _)⟩
    case round =>
      obtain ⟨k, A1, c1, hk, rfl, rfl, ro, hb⟩ := hrel
      by_cases hlt : k < N
      · have k1 : (k : Int) < (N : Int) := by omega
        have LK := Lib.hid (manyL_len k)
        have HB0 := hb.out.size
        have MS := Lib.hid (manyL_succ k)
        go_wp2_with (at_builtin; refine wpList_append_own _ rfl (.tmp 19) (.tmp 23) 22 rfl wc.heap.size 28 i0 _ 5 72 Try.underlying22 hi0 hz0 hz1 hz2 rfl (by omega) _ (manyL k).length (ens (manyL k)) rfl (ro.out.alloc _) ⟨wr.heap.size, 0, none⟩ 1 1 [.int .i64 ((k : Int) + 1), .string pathP, .string agX, .int .i64 0, .slice none 0 0] rfl rfl ?c1 ?c2 ?c3 ?c4 ?c5 ?_)
        case c1 => exact World.news_of_block (cs := #[.int .i64 ((k : Int) + 1), .string pathP, .string agX, .int .i64 0, .slice none 0 0]) (t := 28) (fr := (0, 0)) (heap_alloc_new wr _)
        case c2 => simp [Value.oneCell']
        case c3 => unfold maxLen; rw [LK.out]; omega
        case c4 => rw [LK.out]; omega
        case c5 => rw [World.size_alloc]; omega
        intro v' V5 hown5 hgrow5 _
        obtain ⟨A5, c5, rfl⟩ := own_shape hown5
        have HB5 : Hid (Below wc.heap.size wc V5) := Lib.hid ((hb.out.alloc hb.out.size _).grown hgrow5 (by rw [World.size_alloc]; omega) (fun kk hkk => (own_lt ro.out hkk).1))
        have el2 : (manyL k).length + 1 = (manyL (k + 1)).length := by rw [manyL_len, manyL_len]
        have RO5 : Hid (V5.ownsRow wc.heap.size 28 5 (.slice A5 (manyL (k + 1)).length c5) (manyL (k + 1)).length (ens (manyL (k + 1)))) := Lib.hid (by rw [← el2, MS.out, ens_append, ens_one]; exact hown5)
        rw [el2]
        clear hown5 hgrow5 el2 MS
        go_wp2_with fail
        go_roundw
        case rel => exact ⟨k + 1, A5, c5, by omega, by go_num, rfl, RO5, HB5⟩
        case measure => simp [intOf]; omega
      · have k1 : ¬ (k : Int) < (N : Int) := by omega
        obtain rfl : k = N := by omega
        have EN := Lib.hid (many_ens ro.out)
        have ZN := Lib.hid (many_sizes k)
        have LK := Lib.hid (manyL_len k)
        have MM := Lib.hid (many_may k (wayD agX (manyL k)))
        have MC := Lib.hid (fun (j : Nat) (h : k = j + 1) => by have := many_chain j; rw [← h] at this; exact this)
        clear ro
        by_cases hov : 100 < k
        · have MY := Lib.hid (may_over A1 c1 (manyL k) agX wr (by rw [LK.out]; exact hov))
          have CH := Lib.hid (fun w (h : Below wr.heap.size wr w) => chain_over A1 c1 (manyL k) 1 agX w (EN.out.below h) (by rw [LK.out]; exact hov) (by rw [LK.out]; omega))
          have k2 : (k : Int) > 100 := by omega
          have k3 : (100 : Int) < (k : Int) := by omega
          clear EN ZN LK MM MC
          generalize manyL k = L at *
          go_wp2_with (first
            | (go_at_call 13; (with_reducible refine MY.out.mono ?_); rintro e w2 ⟨rfl, b2⟩; have B2 := Lib.hid b2; clear b2)
            | (go_at_call 10; (with_reducible refine (CH.out _ B2.out).mono ?_); rintro e w4 ⟨rfl, b4⟩; have B4 := Lib.hid b4; clear b4)
            | (go_at_call 12; (with_reducible refine (lives_any _).mono ?_); rintro e w11 ⟨rfl, h11⟩; have H11 := Lib.hid h11; clear h11))
          go_ret
          have b1 := hb.out.trans (B2.out.mono hb.out.size)
          have b2 := b1.trans (B4.out.mono b1.size)
          exact ⟨rfl, b2.trans (H11.out.mono b2.size)⟩
        · have MY := Lib.hid (may_w A1 c1 (manyL k) agX wr EN.out (by rw [LK.out]; omega) (by unfold maxLen; decide) ZN.out)
          have CH := Lib.hid (fun w (h : Below wr.heap.size wr w) => chain_any A1 c1 (manyL k) 1 agX w (EN.out.below h) (by rw [LK.out]; omega) (by unfold maxLen; decide) ZN.out)
          have k2 : ¬ (k : Int) > 100 := by omega
          have k3 : ¬ (100 : Int) < (k : Int) := by omega
          have ML := Lib.hid (fun (M : List En) (h : M.map core = (mayC agX (wayD agX (manyL k)) (manyL k)).map core) => (by
            have h1 := congrArg List.length h
            rw [List.length_map, List.length_map, MM.out, LK.out] at h1
            rw [h1]
            exact beq_self_eq_true _ : ((M.length : Int) == (k : Int)) = true))
          clear EN ZN LK MM
          by_cases hk0 : k = 0
          · have e2 : ((k : Int) == 0) = true := by rw [hk0]; rfl
            clear hk0 MC
            generalize manyL k = L at *
            go_wp2_with (first
              | (go_at_call 13; (with_reducible refine MY.out.mono ?_); rintro e w2 ⟨A3, c3, M, rfl, _, m3, b2⟩; have e1 := ML.out M m3; have B2 := Lib.hid b2; clear b2 m3)
              | (go_at_call 10; (with_reducible refine (CH.out _ B2.out).mono ?_); rintro e w4 ⟨A5, c5, rfl, _, b4⟩; have B4 := Lib.hid b4; clear b4)
              | (go_at_call 12; (with_reducible refine (lives_any _).mono ?_); rintro e w11 ⟨rfl, h11⟩; have H11 := Lib.hid h11; clear h11))
            go_ret
            have b1 := hb.out.trans (B2.out.mono hb.out.size)
            have b2 := b1.trans (B4.out.mono b1.size)
            exact ⟨rfl, b2.trans (H11.out.mono b2.size)⟩
          · have e2 : ((k : Int) == 0) = false := by simp; omega
            obtain ⟨j, hj⟩ : ∃ j, k = j + 1 := ⟨k - 1, by omega⟩
            have e3 : (((chainL agX (wayD agX (manyL k)) (manyL k) 1).length : Int) == 1) = true := by rw [MC.out j hj]; rfl
            clear hk0 MC hj
            generalize manyL k = L at *
            go_wp2_with (first
              | (go_at_call 13; (with_reducible refine MY.out.mono ?_); rintro e w2 ⟨A3, c3, M, rfl, _, m3, b2⟩; have e1 := ML.out M m3; have B2 := Lib.hid b2; clear b2 m3)
              | (go_at_call 10; (with_reducible refine (CH.out _ B2.out).mono ?_); rintro e w4 ⟨A5, c5, rfl, _, b4⟩; have B4 := Lib.hid b4; clear b4)
              | (go_at_call 12; (with_reducible refine (lives_any _).mono ?_); rintro e w11 ⟨rfl, h11⟩; have H11 := Lib.hid h11; clear h11))
            go_ret
            have b1 := hb.out.trans (B2.out.mono hb.out.size)
            have b2 := b1.trans (B4.out.mono b1.size)
            exact ⟨rfl, b2.trans (H11.out.mono b2.size)⟩
end Go.Proofs.Ytcbfmpnkadkpdaa
