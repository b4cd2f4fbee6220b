/- The document's answer: Same, Get: the walks. -/
import Derived.Test.YtffmhejkhimkcaaE1
set_option linter.unusedVariables false
namespace Go.Proofs.Ytffmhejkhimkcaa
open Go.RowKit

theorem run_neq_kt (p q : Kt) (w : World) : (binOp .neq 27 p.agg q.agg).run Try.prog w = .ok (.bool (!decide (p = q))) w := by
  obtain ⟨a, b, c, d, e, f, g⟩ := p
  obtain ⟨a', b', c', d', e', f', g'⟩ := q
  have hp : Try.prog.stoodInHeld 27 = false := by kernel_rfl
  rw [run_neq_struct, run_equalIn_agg w 9999 27 _ _ (by kernel_rfl) hp]
  simp [go_sem]
  simp only [toList_eq_iff]
  by_cases h1 : a = a'
  · by_cases h2 : b = b'
    · by_cases h3 : c = c'
      · by_cases h4 : d = d'
        · by_cases h5 : e = e'
          · by_cases h6 : f = f' <;> by_cases h7 : g = g' <;> simp [h1, h2, h3, h4, h5, h6, h7]
          · simp [h1, h2, h3, h4, h5]
        · simp [h1, h2, h3, h4]
      · simp [h1, h2, h3]
    · simp [h1, h2]
  · simp [h1]

theorem lists_ne {α : Type} (l m : List α) (k : Nat) (h1 : k < l.length) (h2 : k < m.length) (h : l[k] ≠ m[k]) : l ≠ m := by
  rintro rfl; exact h rfl

set_option maxHeartbeats 2000000 in
theorem same_any (b1 b2 : Nat) (v u : Value) (l m : List Kt) (w : World) (h1 : w.ownsRow b1 27 7 v l.length (kts l)) (h2 : w.ownsRow b2 27 7 u m.length (kts m)) (hl : l.length ≤ 1000) (hm : m.length ≤ 1000) :
    Calls Try.prog 16 #[v, u] w fun e w' => e = .returned (.bool (decide (l = m))) ∧ ∃ n, w' = w.drewN n := by
  obtain ⟨A, c, rfl⟩ := own_shape h1
  obtain ⟨B, d, rfl⟩ := own_shape h2
  by_cases hlen : l.length = m.length
  · have HC := Lib.hid (row_cells h1)
    have HD := Lib.hid (row_cells h2)
    clear h1 h2
    have hne : ((l.length : Int) != (m.length : Int)) = false := by simp [hlen]
    have HL := Lib.hid hlen
    clear hlen
    have hq := run_neq_kt
    go_enter Try.func16, Try.ntmps16
    go_wp2_with fail
    go_loopw [5] (fun i wr => ∃ k : Nat, k ≤ l.length ∧ i = .int .i64 k ∧ Hid (l.take k = m.take k) ∧ ∃ n, wr = w.drewN n) (fun i _ => l.length - (intOf i).toNat)
    case atStart => exact ⟨0, by omega, rfl, Lib.hid (by simp), 0, rfl⟩
    case round =>
      obtain ⟨k, hk, rfl, HT, n, rfl⟩ := hrel
      by_cases hlt2 : k < l.length
      · have hlt3 : k < m.length := by have := HL.out; omega
        obtain ⟨g, rfl, hg, hc⟩ := HC.out (by omega)
        obtain ⟨g', rfl, hg', hc'⟩ := HD.out (by omega)
        obtain ⟨x0, x1, x2, x3, x4, x5, x6⟩ := hc k hlt2
        obtain ⟨y0, y1, y2, y3, y4, y5, y6⟩ := hc' k hlt3
        have e1 := hq l[k] m[k]
        have i0 : (0 : Int) ≤ (k : Int) := by omega
        have i1 : (k : Int) < (l.length : Int) := by omega
        have i2 : (k : Int) < (m.length : Int) := by omega
        have ea := List.take_succ_eq_append_getElem hlt2
        have eb := List.take_succ_eq_append_getElem hlt3
        have HS : Hid (l[k] = m[k] → l.take (k + 1) = m.take (k + 1)) := Lib.hid fun h => by rw [ea, eb, HT.out, h]
        have HN := Lib.hid (lists_ne l m k hlt2 hlt3)
        clear ea eb hc hc'
        generalize l[k] = q at *
        generalize m[k] = r at *
        clear hq
        by_cases heq : q = r
        · simp only [heq, decide_true, Bool.not_true] at e1
          subst heq
          go_wp2_with fail
          go_quiet (fail)
          go_wp2_with fail
          go_roundw
          case rel => exact ⟨k + 1, by omega, by go_num, Lib.hid (HS.out (by trivial)), _, rfl⟩
          case measure => simp [intOf]; omega
        · have e2 : ∀ wx, (binOp .neq 27 q.agg r.agg).run Try.prog wx = .ok (.bool true) wx := fun wx => by rw [e1]; simp [heq]
          have HNN := Lib.hid (HN.out heq)
          clear e1 heq
          go_wp2_with fail
          go_quiet (fail)
          go_wp2_with fail
          go_ret
          exact ⟨ret_bool (by have := HNN.out; simp [this]), _, World.drewN_drewN _ _ _⟩
      · have i1 : ¬ (k : Int) < (l.length : Int) := by omega
        have HE : Hid (l = m) := Lib.hid (by
          have := HT.out
          have h := HL.out
          rw [List.take_of_length_le (by omega), List.take_of_length_le (by omega)] at this
          exact this)
        go_wp2_with fail
        go_ret
        exact ⟨ret_bool (by have := HE.out; simp [this]), _, rfl⟩
  · have hne : ((l.length : Int) != (m.length : Int)) = true := by simp; omega
    have HD := Lib.hid (show l ≠ m by rintro rfl; exact hlen rfl)
    clear hlen h1 h2
    go_enter Try.func16, Try.ntmps16
    go_wp2_with fail
    go_ret
    exact ⟨ret_bool (by have := HD.out; simp [this]), 0, rfl⟩

set_option maxRecDepth 100000 in
set_option maxHeartbeats 4000000 in
theorem refGet_any (base g : Nat) (v : Value) (l : List Kt) (u e : Int) (a : ByteArray) (now : Int) (w : World) (h : CacheAt w 36 base g v l u) (hu : 0 ≤ u ∧ u ≤ 1000) (hl : l.length ≤ 1000) :
    Calls Try.prog 26 #[.pointer (some ⟨g, 0, none⟩), .int .i64 e, .string a, .int .i64 now] w (GetP 36 base g v l u e a now w) := by
  have hg := h.blk.cell 0
  have hg1 := h.blk.cell 1
  simp only [List.getElem?_toArray, List.getElem?_cons_zero, List.getElem?_cons_succ] at hg hg1
  have hf1 := h.blk.frozen 1
  have hlt := h.blk.lt
  obtain ⟨A, c, rfl⟩ := own_shape h.own
  have RC := Lib.hid (row_cells h.own)
  have S0 := Lib.hid (St.refl h)
  clear h
  go_enter Try.func26, Try.ntmps26
  go_wp2_with fail
  go_loopw [10] (fun q wr => ∃ k : Nat, k ≤ l.length ∧ q = .int .i64 k ∧ Hid (∀ j, (h : j < l.length) → j < k → isM e a l[j] = true → l[j].exp ≤ now) ∧ wr = w) (fun q _ => l.length - (intOf q).toNat)
  case atStart => exact ⟨0, by omega, rfl, Lib.hid fun j _ h => by omega, rfl⟩
  case round =>
    obtain ⟨k, hk, rfl, hq, rfl⟩ := hrel
    by_cases hltk : k < l.length
    · obtain ⟨gg, rfl, hgg, hcc⟩ := RC.out (by omega)
      obtain ⟨x0, x1, x2, x3, x4, x5, x6⟩ := hcc k hltk
      have k0 : (0 : Int) ≤ (k : Int) := by omega
      have k1 : (k : Int) < (l.length : Int) := by omega
      have NX : Hid ((isM e a l[k] = true → l[k].exp ≤ now) → ∀ j, (h : j < l.length) → j < k + 1 → isM e a l[j] = true → l[j].exp ≤ now) := Lib.hid fun h j hj hjk => by
        by_cases c : j = k
        · subst c; exact h
        · exact hq.out j hj (by omega)
      by_cases he : l[k].entry = e
      · have e1 : (l[k].entry == e) = true := by simp only [beq_iff_eq]; exact he
        by_cases ha : l[k].aud = a
        · have e2 : (l[k].aud.toList == a.toList) = true := by rw [ha]; exact beq_self_eq_true _
          by_cases hex : now < l[k].exp
          · have HM := Lib.hid ((isM_iff e a l[k]).2 ⟨he, ha⟩)
            have hne := S0.out.ne (by decide)
            have hgn : gg ≠ g := by rintro rfl; exact hne rfl
            have S9 : Hid (St wr 36 base g (.slice (some ⟨gg, 0, none⟩) l.length c) (.slice (some ⟨gg, 0, none⟩) l.length c) (l.set k { l[k] with used := u + 1 }) (u + 1) ((wr.setCell ⟨g, 1, none⟩ (.int .i64 (u + 1))).setCell ⟨gg, k * 7 + 5, none⟩ (.int .i64 (u + 1))).drew) := Lib.hid ((S0.out.use (by decide) (u + 1)).setUsed (by decide) hltk (u + 1)).drew
            have HP : Hid (∀ wx, St wr 36 base g (.slice (some ⟨gg, 0, none⟩) l.length c) (.slice (some ⟨gg, 0, none⟩) l.length c) (l.set k { l[k] with used := u + 1 }) (u + 1) wx → GetP 36 base g (.slice (some ⟨gg, 0, none⟩) l.length c) l u e a now wr (.returned (.tuple #[.string l[k].token, .bool true])) wx) := Lib.hid fun wx hx => .inr ⟨k, hltk, HM.out, hex, rfl, hx⟩
            have wu : IntKind.i64.wrap (u + 1) = u + 1 := IntWalk.i64_in _ (by omega)
            obtain ⟨cur, _, hbk, _⟩ := own_cur S0.out.at_.own
            have f5 := hbk.frozen (k * 7 + 5)
            clear NX hq he ha hcc hne hbk
            generalize { l[k] with used := u + 1 } = x' at *
            generalize l[k] = x at *
            go_upto_region 6 with fail
            have U1 := (S0.out.use (by decide) (u + 1))
            have hg' := U1.at_.blk.cell 0
            have hg1' := U1.at_.blk.cell 1
            simp only [List.getElem?_toArray, List.getElem?_cons_zero, List.getElem?_cons_succ] at hg' hg1'
            have O1 : Only (fun b => b = g) wr (wr.setCell ⟨g, 1, none⟩ (.int .i64 (u + 1))) := Only.setCell (F := fun b => b = g) (p := ⟨g, 1, none⟩) (Only.refl _ _) (.inl rfl) _
            have x2' := O1.cell x2 (by show ¬ gg = g; exact hgn)
            have x5' := O1.cell x5 (by show ¬ gg = g; exact hgn)
            have f5' : (wr.setCell ⟨g, 1, none⟩ (.int .i64 (u + 1))).frozen? ⟨gg, k * 7 + 5, none⟩ = false := by
              obtain ⟨cur', _, hbk', _⟩ := own_cur U1.at_.own
              exact hbk'.frozen _
            clear U1 O1 x0 x1 x2 x3 x4 x5 x6 f5 hg hg1 hf1
            generalize wr.setCell ⟨g, 1, none⟩ (.int .i64 (u + 1)) = W1 at *
            go_still_tail 11, (by kernel_rfl)
            go_wp2_with fail
            go_ret2
            exact HP.out _ S9.out
          · have NN := Lib.hid (NX.out (fun _ => by omega))
            have hex2 : ¬ now < l[k].exp := hex
            clear NX hq he ha hcc
            generalize l[k] = x at *
            go_wp2_with fail
            go_roundw
            case rel => exact ⟨k + 1, by omega, by go_num, NN, by trivial⟩
            case measure => simp [intOf]; omega
        · have e2 : (l[k].aud.toList == a.toList) = false := by rw [beq_eq_false_iff_ne, ne_eq, toList_eq_iff]; exact ha
          have NN := Lib.hid (NX.out (fun h => absurd ((isM_iff _ _ _).1 h).2 ha))
          clear NX hq he ha hcc
          generalize l[k] = x at *
          go_wp2_with fail
          go_roundw
          case rel => exact ⟨k + 1, by omega, by go_num, NN, by trivial⟩
          case measure => simp [intOf]; omega
      · have e1 : (l[k].entry == e) = false := by simp only [beq_eq_false_iff_ne, ne_eq]; exact he
        have NN := Lib.hid (NX.out (fun h => absurd ((isM_iff _ _ _).1 h).1 he))
        clear NX hq he hcc
        generalize l[k] = x at *
        go_wp2_with fail
        go_roundw
        case rel => exact ⟨k + 1, by omega, by go_num, NN, by trivial⟩
        case measure => simp [intOf]; omega
    · have k1 : ¬ (k : Int) < (l.length : Int) := by omega
      have HP : Hid (GetP 36 base g (.slice A l.length c) l u e a now wr (.returned (.tuple #[.string ⟨#[]⟩, .bool false])) wr) := Lib.hid (.inl ⟨rfl, S0.out, fun j h hp => hq.out j h (by omega) hp⟩)
      clear hq
      go_wp2_with fail
      go_ret2
      exact HP.out
end Go.Proofs.Ytffmhejkhimkcaa
