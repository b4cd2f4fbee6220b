/- The document's answer: without, Put: the walks. -/
import Derived.Test.YtffmhejkhimkcaaC8
set_option linter.unusedVariables false
namespace Go.Proofs.Ytffmhejkhimkcaa
open Go.RowKit

theorem own_weaken {w : World} {base base' : Nat} {v : Value} {n : Nat} {xs : List Value} (h : w.ownsRow base' 27 7 v n xs) (hb : base ≤ base') : w.ownsRow base 27 7 v n xs := by
  refine ⟨h.1, ?_⟩
  rcases h.2 with h | ⟨g, cap, cur, hv, hg, rest⟩
  · exact .inl h
  · exact .inr ⟨g, cap, cur, hv, Nat.le_trans hb hg, rest⟩
theorem row_cells {w : World} {base n : Nat} {A : Option Addr} {c : Nat} {l : List Kt} (h : w.ownsRow base 27 7 (.slice A n c) n (kts l)) (hpos : 0 < n) : ∃ g, A = some ⟨g, 0, none⟩ ∧ g < w.heap.size ∧ CellsAt w g l := by
  rcases h.2 with ⟨_, h0⟩ | ⟨gg, cap, cur, hv, _⟩
  · omega
  · injection hv with hv
    subst hv
    exact ⟨gg, rfl, (own_lt h rfl).2, cellsAt h⟩
theorem new_kt (w : World) (x : Kt) (j : Nat) (u : Value) (h : (x.cells)[j]? = some u) : (w.alloc (.cells (x.cells).toArray 27)).cell? ⟨w.heap.size, j, none⟩ = some u := by
  rw [(Blk.new w 27 (x.cells).toArray).cell]
  simpa using h

set_option maxRecDepth 100000 in
set_option maxHeartbeats 4000000 in
theorem without_any (base : Nat) (v : Value) (l : List Kt) (e : Int) (a : ByteArray) (w : World) (hown : w.ownsRow base 27 7 v l.length (kts l)) (hl : l.length ≤ 1000) :
    Calls Try.prog 29 #[v, .int .i64 e, .string a] w fun en w' => ∃ v', en = .returned v' ∧ w'.ownsRow w.heap.size 27 7 v' (keptOf (isM e a) l).length (kts (keptOf (isM e a) l)) ∧ Below w.heap.size w w' := by
  obtain ⟨i0, hi0, hz0, hz1, hz2⟩ := info_parts Try.info27
  obtain ⟨A, c, rfl⟩ := own_shape hown
  have RC := Lib.hid (row_cells hown)
  clear hown
  go_enter Try.func29, Try.ntmps29
  go_wp2_with fail
  go_loopw [7, 8] (fun ov q wr => ∃ k : Nat, k ≤ l.length ∧ q = .int .i64 k ∧ Hid (wr.ownsRow w.heap.size 27 7 ov (keptOf (isM e a) (l.take k)).length (kts (keptOf (isM e a) (l.take k)))) ∧ Hid (Below w.heap.size w wr)) (fun _ q _ => l.length - (intOf q).toNat)
  case atStart => exact ⟨0, by omega, rfl, Lib.hid (World.ownsRow_nil _ _ _ _), Lib.hid (Below.refl _ _)⟩
  case round =>
    rename_i ov _ _
    obtain ⟨k, hk, rfl, ho, hb⟩ := hrel
    obtain ⟨Ao, co, rfl⟩ := own_shape ho.out
    by_cases hlt : k < l.length
    · have k0 : (0 : Int) ≤ (k : Int) := by omega
      have k1 : (k : Int) < (l.length : Int) := by omega
      obtain ⟨g, rfl, hg, hcc⟩ := RC.out (by omega)
      obtain ⟨x0, x1, x2, x3, x4, x5, x6⟩ := (hcc k hlt).below hb.out hg
      have KS := Lib.hid (kept_snoc (isM e a) l k hlt)
      have LE := Lib.hid (Nat.le_trans (kept_le (isM e a) (l.take k)) (by rw [List.length_take]; omega : (l.take k).length ≤ 1000))
      have hg2 := Nat.lt_of_lt_of_le hg hb.out.size
      clear hcc hg
      generalize l[k] = x at *
      generalize keptOf (isM e a) (l.take k) = K0 at *
      have le := LE.out
      by_cases he : x.entry = e
      · have e1 : (x.entry != e) = false := by simp only [bne_eq_false_iff_eq]; exact he
        by_cases ha : x.aud = a
        · have e2 : (x.aud.toList == a.toList) = true := by rw [ha]; exact beq_self_eq_true _
          have HK : Hid (keptOf (isM e a) (l.take (k + 1)) = K0) := Lib.hid (by rw [KS.out, if_pos ((isM_iff _ _ _).2 ⟨he, ha⟩), List.append_nil])
          clear he ha KS
          go_wp2_with fail
          go_roundw
          case rel => exact ⟨k + 1, by omega, by go_num, by rw [HK.out]; exact ho, hb⟩
          case measure => simp [intOf]; omega
        · have e2 : (x.aud.toList == a.toList) = false := by rw [beq_eq_false_iff_ne, ne_eq, toList_eq_iff]; exact ha
          have hp : isM e a x = false := by rw [isM_not]; exact fun h => ha h.2
          clear he ha
          have HK : Hid (keptOf (isM e a) (l.take (k + 1)) = K0 ++ [x]) := Lib.hid (by rw [KS.out, if_neg (by rw [hp]; decide)])
          clear KS hp
          go_wp2_with (at_builtin; refine wpList_append_own _ rfl (.tmp 31) (.tmp 36) 22 rfl w.heap.size 27 i0 _ 7 80 Try.underlying22 hi0 hz0 hz1 hz2 rfl (by omega) _ K0.length (kts K0) rfl (ho.out.alloc _) ⟨wr.heap.size, 0, none⟩ 1 1 [.int .i64 x.entry, .string x.aud, .string x.token, .int .i64 x.iat, .int .i64 x.exp, .int .i64 x.used, .string x.needs] rfl rfl ?c1 ?c2 ?c3 ?c4 ?c5 ?_)
          case c1 => exact World.news_of_block (cs := #[.int .i64 x.entry, .string x.aud, .string x.token, .int .i64 x.iat, .int .i64 x.exp, .int .i64 x.used, .string x.needs]) (t := 27) (fr := (0, 0)) (heap_alloc_new wr _)
          case c2 => simp [Value.oneCell']
          case c3 => unfold maxLen; omega
          case c4 => omega
          case c5 => rw [World.size_alloc]; have := hb.out.size; omega
          intro v' w1 hown1 hgrow1 _
          have H1 : Hid (w1.ownsRow w.heap.size 27 7 v' (keptOf (isM e a) (l.take (k + 1))).length (kts (keptOf (isM e a) (l.take (k + 1))))) := Lib.hid (by
            rw [HK.out, List.length_append, List.length_singleton, kts_append, kts_one]
            exact hown1)
          have H2 := Lib.hid hgrow1
          clear hown1 hgrow1
          go_wp2_with fail
          go_roundw
          case rel => exact ⟨k + 1, by omega, by go_num, H1, Lib.hid ((hb.out.alloc hb.out.size _).grown H2.out (by rw [World.size_alloc]; have := hb.out.size; omega) (fun b hb => (ho.out.lt b hb).1))⟩
          case measure => simp [intOf]; omega
      · have e1 : (x.entry != e) = true := by simp only [bne_iff_ne, ne_eq]; exact he
        have hp : isM e a x = false := by rw [isM_not]; exact fun h => he h.1
        clear he
        have HK : Hid (keptOf (isM e a) (l.take (k + 1)) = K0 ++ [x]) := Lib.hid (by rw [KS.out, if_neg (by rw [hp]; decide)])
        clear KS hp
        go_wp2_with (at_builtin; refine wpList_append_own _ rfl (.tmp 31) (.tmp 36) 22 rfl w.heap.size 27 i0 _ 7 80 Try.underlying22 hi0 hz0 hz1 hz2 rfl (by omega) _ K0.length (kts K0) rfl (ho.out.alloc _) ⟨wr.heap.size, 0, none⟩ 1 1 [.int .i64 x.entry, .string x.aud, .string x.token, .int .i64 x.iat, .int .i64 x.exp, .int .i64 x.used, .string x.needs] rfl rfl ?c1 ?c2 ?c3 ?c4 ?c5 ?_)
        case c1 => exact World.news_of_block (cs := #[.int .i64 x.entry, .string x.aud, .string x.token, .int .i64 x.iat, .int .i64 x.exp, .int .i64 x.used, .string x.needs]) (t := 27) (fr := (0, 0)) (heap_alloc_new wr _)
        case c2 => simp [Value.oneCell']
        case c3 => unfold maxLen; omega
        case c4 => omega
        case c5 => rw [World.size_alloc]; have := hb.out.size; omega
        intro v' w1 hown1 hgrow1 _
        have H1 : Hid (w1.ownsRow w.heap.size 27 7 v' (keptOf (isM e a) (l.take (k + 1))).length (kts (keptOf (isM e a) (l.take (k + 1))))) := Lib.hid (by
          rw [HK.out, List.length_append, List.length_singleton, kts_append, kts_one]
          exact hown1)
        have H2 := Lib.hid hgrow1
        clear hown1 hgrow1
        go_wp2_with fail
        go_roundw
        case rel => exact ⟨k + 1, by omega, by go_num, H1, Lib.hid ((hb.out.alloc hb.out.size _).grown H2.out (by rw [World.size_alloc]; have := hb.out.size; omega) (fun b hb => (ho.out.lt b hb).1))⟩
        case measure => simp [intOf]; omega
    · have k1 : ¬ (k : Int) < (l.length : Int) := by omega
      have HO : Hid (wr.ownsRow w.heap.size 27 7 (.slice Ao (keptOf (isM e a) (l.take k)).length co) (keptOf (isM e a) l).length (kts (keptOf (isM e a) l))) := Lib.hid (by
        have := ho.out
        rw [List.take_of_length_le (by omega : l.length ≤ k)] at this ⊢
        exact this)
      go_wp2_with fail
      go_ret
      exact ⟨_, rfl, HO.out, hb.out⟩
end Go.Proofs.Ytffmhejkhimkcaa
