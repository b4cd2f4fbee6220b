/- The document's answer: Drop: the walk. -/
import Derived.Test.YtffmhejkhimkcaaE4
import Derived.Test.YtffmhejkhimkcaaE5
set_option linter.unusedVariables false
namespace Go.Proofs.Ytffmhejkhimkcaa
open Go.RowKit

theorem frozen_below' {w0 w : World} {g i : Nat} (h : Below w0.heap.size w0 w) (hg : g < w0.heap.size) : w.frozen? ⟨g, i, none⟩ = w0.frozen? ⟨g, i, none⟩ := by
  unfold World.frozen?
  rw [h.block g hg]
theorem mem_take_succ (es : List Int) (k : Nat) (h : k < es.length) (x : Int) : decide (x ∈ es.take (k + 1)) = (decide (x ∈ es.take k) || decide (es[k] = x)) := by
  rw [List.take_succ_eq_append_getElem h, ← Bool.decide_or]
  congr 1
  simp only [List.mem_append, List.mem_singleton]
  exact propext ⟨fun h => h.imp id Eq.symm, fun h => h.imp id Eq.symm⟩

set_option maxRecDepth 100000 in
set_option maxHeartbeats 4000000 in
theorem refDrop_any (base g : Nat) (v : Value) (l : List Kt) (u : Int) (A : Option Addr) (c : Nat) (es : List Int) (now : Int) (w : World) (h : CacheAt w 36 base g v l u) (hl : l.length ≤ 1000) (hE : IntsAt w A es) (hn : es.length ≤ 9223372036854775807) (hbs : base ≤ w.heap.size) :
    Calls Try.prog 28 #[.pointer (some ⟨g, 0, none⟩), .slice A es.length c, .int .i64 now] w fun e w' => e = .returned (.tuple #[]) ∧ ∃ v', St w 36 base g v v' (keptOf (dropP es now) l) u w' := by
  obtain ⟨i0, hi0, hz0, hz1, hz2⟩ := info_parts Try.info27
  obtain ⟨Al, cl, rfl⟩ := own_shape h.own
  have hgw := h.blk.cell 0
  simp only [List.getElem?_toArray, List.getElem?_cons_zero] at hgw
  have hltw := h.blk.lt
  have HG := Lib.hid hgw
  have HF := Lib.hid (h.blk.frozen 0)
  have RC := Lib.hid (row_cells h.own)
  have S0 := Lib.hid (St.refl h)
  have HE := Lib.hid hE
  clear h hE
  go_enter Try.func28, Try.ntmps28
  go_wp2_with fail
  clear hgw
  go_loopw [6, 7] (fun ov q wr => ∃ k : Nat, k ≤ l.length ∧ q = .int .i64 k ∧ Hid (wr.ownsRow w.heap.size 27 7 ov (keptOf (dropP es now) (l.take k)).length (kts (keptOf (dropP es now) (l.take k)))) ∧ Hid (Below w.heap.size w wr)) (fun _ q _ => l.length - (intOf q).toNat)
  case atStart => exact ⟨0, by omega, rfl, Lib.hid (World.ownsRow_nil _ _ _ _), Lib.hid (Below.refl _ _)⟩
  case round =>
    rename_i ov _ _
    obtain ⟨k, hk, rfl, ho, hb⟩ := hrel
    obtain ⟨Ao, co, rfl⟩ := own_shape ho.out
    have hg := (hb.out.cell (p := ⟨g, 0, none⟩) hltw).trans HG.out
    have hlt := Nat.lt_of_lt_of_le hltw hb.out.size
    by_cases hltk : k < l.length
    · have k0 : (0 : Int) ≤ (k : Int) := by omega
      have k1 : (k : Int) < (l.length : Int) := by omega
      obtain ⟨gg, rfl, hgg, hcc⟩ := RC.out (by omega)
      obtain ⟨x0, x1, x2, x3, x4, x5, x6⟩ := (hcc k hltk).below hb.out hgg
      have KS := Lib.hid (kept_snoc (dropP es now) l k hltk)
      have LE := Lib.hid (Nat.le_trans (kept_le (dropP es now) (l.take k)) (by rw [List.length_take]; omega : (l.take k).length ≤ 1000))
      have hg2 := Nat.lt_of_lt_of_le hgg hb.out.size
      have HE2 := Lib.hid (HE.out.below hb.out)
      have DP : Hid (dropP es now l[k] = (!decide (l[k].entry ∈ es) || decide (l[k].exp ≤ now))) := Lib.hid rfl
      clear hcc hgg
      generalize l[k] = x at *
      generalize keptOf (dropP es now) (l.take k) = K0 at *
      have le := LE.out
      go_wp2_with fail
      go_loopw [8, 9] (fun hv q wr2 => ∃ i t : Nat, i ≤ es.length ∧ q = .int .i64 i ∧ hv = .bool (decide (x.entry ∈ es.take i)) ∧ wr2 = wr.drewN t) (fun _ q _ => es.length - (intOf q).toNat)
      case atStart => exact ⟨0, 0, by omega, rfl, rfl, rfl⟩
      case round =>
        obtain ⟨i, t, hi, rfl, rfl, rfl⟩ := hrel
        by_cases hlti : i < es.length
        · have i0' : (0 : Int) ≤ (i : Int) := by omega
          have i1 : (i : Int) < (es.length : Int) := by omega
          obtain ⟨b, o, rfl, hbl, hce⟩ := HE2.out (by omega)
          have y0 := hce i hlti
          have MT := Lib.hid (mem_take_succ es i hlti x.entry)
          clear hce
          generalize es[i] = y at *
          generalize decide (x.entry ∈ es.take i) = hv at *
          cases hv with
          | true =>
            have MT2 : Hid (decide (x.entry ∈ es.take (i + 1)) = true) := Lib.hid (by rw [MT.out]; rfl)
            clear MT
            go_upto_region 8 with fail
            go_quiet (fail)
            go_wp2_with fail
            go_roundw
            case rel => exact ⟨i + 1, _, by omega, by go_num, by rw [MT2.out], rfl⟩
            case measure => simp [intOf]; omega
          | false =>
            by_cases hye : y = x.entry
            · have e1 : (y == x.entry) = true := by simp only [beq_iff_eq]; exact hye
              have MT2 : Hid (decide (x.entry ∈ es.take (i + 1)) = true) := Lib.hid (by rw [MT.out, decide_eq_true hye]; rfl)
              clear MT hye
              go_upto_region 8 with fail
              go_quiet (fail)
              go_wp2_with fail
              go_roundw
              case rel => exact ⟨i + 1, _, by omega, by go_num, by rw [MT2.out], rfl⟩
              case measure => simp [intOf]; omega
            · have e1 : (y == x.entry) = false := by simp only [beq_eq_false_iff_ne, ne_eq]; exact hye
              have MT2 : Hid (decide (x.entry ∈ es.take (i + 1)) = false) := Lib.hid (by rw [MT.out, decide_eq_false hye]; rfl)
              clear MT hye
              go_upto_region 8 with fail
              go_quiet (fail)
              go_wp2_with fail
              go_roundw
              case rel => exact ⟨i + 1, _, by omega, by go_num, by rw [MT2.out], rfl⟩
              case measure => simp [intOf]; omega
        · have i1 : ¬ (i : Int) < (es.length : Int) := by omega
          have hte : es.take i = es := List.take_of_length_le (by omega)
          rw [hte]
          have HB2 : Hid (Below w.heap.size w (wr.drewN t)) := Lib.hid (below_drewN hb.out t)
          have HO2 : Hid ((wr.drewN t).ownsRow w.heap.size 27 7 (.slice Ao K0.length co) K0.length (kts K0)) := ho
          have hg' : (wr.drewN t).cell? ⟨g, 0, none⟩ = some (.slice (some ⟨gg, 0, none⟩) l.length cl) := hg
          have z0 : (wr.drewN t).cell? ⟨gg, k * 7, none⟩ = some (.int .i64 x.entry) := x0
          have z1 : (wr.drewN t).cell? ⟨gg, k * 7 + 1, none⟩ = some (.string x.aud) := x1
          have z2 : (wr.drewN t).cell? ⟨gg, k * 7 + 2, none⟩ = some (.string x.token) := x2
          have z3 : (wr.drewN t).cell? ⟨gg, k * 7 + 3, none⟩ = some (.int .i64 x.iat) := x3
          have z4 : (wr.drewN t).cell? ⟨gg, k * 7 + 4, none⟩ = some (.int .i64 x.exp) := x4
          have z5 : (wr.drewN t).cell? ⟨gg, k * 7 + 5, none⟩ = some (.int .i64 x.used) := x5
          have z6 : (wr.drewN t).cell? ⟨gg, k * 7 + 6, none⟩ = some (.string x.needs) := x6
          have hl2 : g < (wr.drewN t).heap.size := hlt
          have hl3 : gg < (wr.drewN t).heap.size := hg2
          clear hte x0 x1 x2 x3 x4 x5 x6 hg HE2 hlt hg2
          generalize wr.drewN t = WX at *
          clear ho hb
          by_cases hin : x.entry ∈ es
          · rw [decide_eq_true hin] at DP ⊢
            by_cases hex : now < x.exp
            · have HK : Hid (keptOf (dropP es now) (l.take (k + 1)) = K0 ++ [x]) := Lib.hid (by rw [KS.out, if_neg (by rw [DP.out]; simp; omega)])
              clear KS DP hin
              go_wp2_with (at_builtin; refine wpList_append_own _ rfl (.tmp 54) (.tmp 62) 22 rfl w.heap.size 27 i0 _ 7 80 Try.underlying22 hi0 hz0 hz1 hz2 rfl (by omega) _ K0.length (kts K0) rfl (HO2.out.alloc _) ⟨WX.heap.size, 0, none⟩ 1 1 [.int .i64 x.entry, .string x.aud, .string x.token, .int .i64 x.iat, .int .i64 x.exp, .int .i64 x.used, .string x.needs] rfl rfl ?c1 ?c2 ?c3 ?c4 ?c5 ?_)
              try (case c1 => exact World.news_of_block (cs := #[.int .i64 x.entry, .string x.aud, .string x.token, .int .i64 x.iat, .int .i64 x.exp, .int .i64 x.used, .string x.needs]) (t := 27) (fr := (0, 0)) (heap_alloc_new WX _))
              case c2 => simp [Value.oneCell']
              case c3 => unfold maxLen; omega
              case c4 => omega
              case c5 => have := HB2.out.size; simp; omega
              intro v' w1 hown1 hgrow1 _
              have H1 : Hid (w1.ownsRow w.heap.size 27 7 v' (keptOf (dropP es now) (l.take (k + 1))).length (kts (keptOf (dropP es now) (l.take (k + 1))))) := Lib.hid (by
                rw [HK.out, List.length_append, List.length_singleton, kts_append, kts_one]
                exact hown1)
              have H2 := Lib.hid hgrow1
              clear hown1 hgrow1
              go_wp2_with fail
              go_roundw
              case rel => exact ⟨k + 1, by omega, by go_num, H1, Lib.hid ((HB2.out.alloc HB2.out.size _).grown H2.out (by have := HB2.out.size; simp; omega) (fun b hb => (HO2.out.lt b hb).1))⟩
              case measure => simp [intOf]; omega
            · have HK : Hid (keptOf (dropP es now) (l.take (k + 1)) = K0) := Lib.hid (by rw [KS.out, if_pos (by rw [DP.out]; simp; omega), List.append_nil])
              clear KS DP hin
              go_wp2_with fail
              go_roundw
              case rel => exact ⟨k + 1, by omega, by go_num, by rw [HK.out]; exact HO2, HB2⟩
              case measure => simp [intOf]; omega
          · rw [decide_eq_false hin] at DP ⊢
            have HK : Hid (keptOf (dropP es now) (l.take (k + 1)) = K0) := Lib.hid (by rw [KS.out, if_pos (by rw [DP.out]; rfl), List.append_nil])
            clear KS DP hin
            go_wp2_with fail
            go_roundw
            case rel => exact ⟨k + 1, by omega, by go_num, by rw [HK.out]; exact HO2, HB2⟩
            case measure => simp [intOf]; omega
    · have k1 : ¬ (k : Int) < (l.length : Int) := by omega
      have HO : Hid (wr.ownsRow w.heap.size 27 7 (.slice Ao (keptOf (dropP es now) (l.take k)).length co) (keptOf (dropP es now) l).length (kts (keptOf (dropP es now) l))) := Lib.hid (by
        have := ho.out
        rw [List.take_of_length_le (by omega : l.length ≤ k)] at this ⊢
        exact this)
      have hgf := (frozen_below' hb.out hltw).trans HF.out
      have SF := Lib.hid (S0.out.store (by decide) (own_weaken HO.out hbs) (Only.of_below hb.out) (fun k hk => .inr (own_lt HO.out hk).1))
      go_wp2_with fail
      go_end0
      exact ⟨rfl, _, SF.out⟩
end Go.Proofs.Ytffmhejkhimkcaa
