/- The document's answer: Due, Drop: the walks. -/
import Derived.Test.YtffmhejkhimkcaaE4
import Derived.Test.YtffmhejkhimkcaaE5
set_option linter.unusedVariables false
namespace Go.Proofs.Ytffmhejkhimkcaa
open Go.RowKit

set_option maxRecDepth 100000 in
set_option maxHeartbeats 4000000 in
theorem refDue_any (base g : Nat) (v : Value) (l : List Kt) (u now : Int) (w : World) (h : CacheAt w 36 base g v l u) (hl : l.length ≤ 1000) (hok : ∀ x ∈ l, x.ok) :
    Calls Try.prog 17 #[.pointer (some ⟨g, 0, none⟩), .int .i64 now] w fun e w' => ∃ v', e = .returned v' ∧ w'.ownsRow w.heap.size 27 7 v' (keptOf (dueP now) l).length (kts (keptOf (dueP now) l)) ∧ Below w.heap.size w w' := by
  obtain ⟨i0, hi0, hz0, hz1, hz2⟩ := info_parts Try.info27
  obtain ⟨A, c, rfl⟩ := own_shape h.own
  have hgw := h.blk.cell 0
  simp only [List.getElem?_toArray, List.getElem?_cons_zero] at hgw
  have hltw := h.blk.lt
  have HG := Lib.hid hgw
  have RC := Lib.hid (row_cells h.own)
  clear h
  go_enter Try.func17, Try.ntmps17
  go_wp2_with fail
  clear hgw
  go_loopw [5, 6] (fun ov q wr => ∃ k : Nat, k ≤ l.length ∧ q = .int .i64 k ∧ Hid (wr.ownsRow w.heap.size 27 7 ov (keptOf (dueP now) (l.take k)).length (kts (keptOf (dueP now) (l.take k)))) ∧ Hid (Below w.heap.size w wr)) (fun _ q _ => l.length - (intOf q).toNat)
  case atStart => exact ⟨0, by omega, rfl, Lib.hid (World.ownsRow_nil _ _ _ _), Lib.hid (Below.refl _ _)⟩
  case round =>
    rename_i ov _ _
    obtain ⟨k, hk, rfl, ho, hb⟩ := hrel
    obtain ⟨Ao, co, rfl⟩ := own_shape ho.out
    have hg := (hb.out.cell (p := ⟨g, 0, none⟩) hltw).trans HG.out
    have hlt := Nat.lt_of_lt_of_le hltw hb.out.size
    by_cases hltk : k < l.length
    · have k0 : (0 : Int) ≤ (k : Int) := by omega
      have k1 : (k : Int) < (l.length : Int) := by omega
      obtain ⟨gg, rfl, hgg, hcc⟩ := RC.out (by omega)
      obtain ⟨x0, x1, x2, x3, x4, x5, x6⟩ := (hcc k hltk).below hb.out hgg
      have KS := Lib.hid (kept_snoc (dueP now) l k hltk)
      have LE := Lib.hid (Nat.le_trans (kept_le (dueP now) (l.take k)) (by rw [List.length_take]; omega : (l.take k).length ≤ 1000))
      have hg2 := Nat.lt_of_lt_of_le hgg hb.out.size
      have ok := hok _ (List.getElem_mem hltk)
      have HF := Lib.hid (fun wx => refHalf_any l[k].iat l[k].exp wx ok.2.1 ok.2.2.1)
      have DP : Hid (dueP now l[k] = !decide (half l[k].iat l[k].exp ≤ now)) := Lib.hid (by unfold dueP; rw [halfW_eq _ _ ok.2.1 ok.2.2.1])
      clear hcc hgg ok
      generalize l[k] = x at *
      generalize keptOf (dueP now) (l.take k) = K0 at *
      generalize half x.iat x.exp = hf at *
      have le := LE.out
      by_cases hdue : hf ≤ now
      · have HK : Hid (keptOf (dueP now) (l.take (k + 1)) = K0 ++ [x]) := Lib.hid (by rw [KS.out, if_neg (by rw [DP.out]; simp [hdue])])
        clear KS DP
        go_upto_region 5 with fail
        go_cut [34] from 7 to 44 (fun c w2 => c = .bool true ∧ w2 = wr.drew)
        case first =>
          go_region_held (fun w' => w'.cell? ⟨g, 0, none⟩ = some (.slice (some ⟨gg, 0, none⟩) l.length c) ∧ w'.cell? ⟨gg, k * 7 + 3, none⟩ = some (.int .i64 x.iat) ∧ w'.cell? ⟨gg, k * 7 + 4, none⟩ = some (.int .i64 x.exp)) (exact ⟨hg, x3, x4⟩) ((first
            | (go_at_call 32; refine (HF.out _).mono ?_; rintro e w ⟨rfl, rfl⟩)))
          all_goals (go_wp2_with fail)
          all_goals go_meet
          all_goals exact ⟨by simp, rfl⟩
        case rest =>
        obtain ⟨rfl, rfl⟩ := hcut
        go_wp2_with (at_builtin; refine wpList_append_own _ rfl (.tmp 35) (.tmp 43) 22 rfl w.heap.size 27 i0 _ 7 80 Try.underlying22 hi0 hz0 hz1 hz2 rfl (by omega) _ K0.length (kts K0) rfl (World.ownsRow.alloc (w := wr.drew) ho.out _) ⟨wr.heap.size, 0, none⟩ 1 1 [.int .i64 x.entry, .string x.aud, .string x.token, .int .i64 x.iat, .int .i64 x.exp, .int .i64 x.used, .string x.needs] rfl rfl ?c1 ?c2 ?c3 ?c4 ?c5 ?_)
        case c1 => exact World.news_of_block (cs := #[.int .i64 x.entry, .string x.aud, .string x.token, .int .i64 x.iat, .int .i64 x.exp, .int .i64 x.used, .string x.needs]) (t := 27) (fr := (0, 0)) (heap_alloc_new wr _)
        case c2 => simp [Value.oneCell']
        case c3 => unfold maxLen; omega
        case c4 => omega
        case c5 => have := hb.out.size; simp; omega
        intro v' w1 hown1 hgrow1 _
        have H1 : Hid (w1.ownsRow w.heap.size 27 7 v' (keptOf (dueP now) (l.take (k + 1))).length (kts (keptOf (dueP now) (l.take (k + 1))))) := Lib.hid (by
          rw [HK.out, List.length_append, List.length_singleton, kts_append, kts_one]
          exact hown1)
        have H2 := Lib.hid hgrow1
        clear hown1 hgrow1
        go_wp2_with fail
        go_roundw
        case rel => exact ⟨k + 1, by omega, by go_num, H1, Lib.hid ((hb.out.drew.alloc hb.out.size _).grown H2.out (by have := hb.out.size; simp; omega) (fun b hb => (ho.out.lt b hb).1))⟩
        case measure => simp [intOf]; omega
      · have HK : Hid (keptOf (dueP now) (l.take (k + 1)) = K0) := Lib.hid (by rw [KS.out, if_pos (by rw [DP.out]; simp; omega), List.append_nil])
        clear KS DP
        go_upto_region 5 with fail
        go_cut [34] from 7 to 44 (fun c w2 => c = .bool false ∧ w2 = wr.drew)
        case first =>
          go_region_held (fun w' => w'.cell? ⟨g, 0, none⟩ = some (.slice (some ⟨gg, 0, none⟩) l.length c) ∧ w'.cell? ⟨gg, k * 7 + 3, none⟩ = some (.int .i64 x.iat) ∧ w'.cell? ⟨gg, k * 7 + 4, none⟩ = some (.int .i64 x.exp)) (exact ⟨hg, x3, x4⟩) ((first
            | (go_at_call 32; refine (HF.out _).mono ?_; rintro e w ⟨rfl, rfl⟩)))
          all_goals (go_wp2_with fail)
          all_goals go_meet
          all_goals exact ⟨by simp; omega, rfl⟩
        case rest =>
        obtain ⟨rfl, rfl⟩ := hcut
        go_wp2_with fail
        go_roundw
        case rel => exact ⟨k + 1, by omega, by go_num, by rw [HK.out]; exact ho, Lib.hid hb.out.drew⟩
        case measure => simp [intOf]; omega
    · have k1 : ¬ (k : Int) < (l.length : Int) := by omega
      have HO : Hid (wr.ownsRow w.heap.size 27 7 (.slice Ao (keptOf (dueP now) (l.take k)).length co) (keptOf (dueP now) l).length (kts (keptOf (dueP now) l))) := Lib.hid (by
        have := ho.out
        rw [List.take_of_length_le (by omega : l.length ≤ k)] at this ⊢
        exact this)
      go_wp2_with fail
      go_ret
      exact ⟨_, rfl, HO.out, hb.out⟩
end Go.Proofs.Ytffmhejkhimkcaa
