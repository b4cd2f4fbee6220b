/- far: the walk. -/
import Derived.Test.YtcbfmpnkadkpdaaC4
import Derived.Deep.LoopGhost
set_option linter.unusedVariables false
namespace Go.Proofs.Ytcbfmpnkadkpdaa
open Go.RowKit Go.Maps

/-- What far tells. -/
def FarP (agent : ByteArray) (l : List En) (w : World) (e : Ending) (w' : World) : Prop :=
  ∃ b N d, e = .returned (.map (some b)) ∧ w.heap.size ≤ b ∧ MapR w' b N agent d ∧ Done agent l d ∧ Below w.heap.size w w'

theorem bound_step {agent : ByteArray} {l : List En} {d : ByteArray → Option Nat} (h : Way agent l d) (hn : l.length ≤ 100) : ∀ p n, d p = some n → n ≤ 100 := fun p n hp => by
  have := h.bnd p n hp
  have := cnt_le l d
  omega
theorem bound_step2 {agent : ByteArray} {l : List En} {d : ByteArray → Option Nat} (h : Way agent l d) (hn : l.length ≤ 100) (e : En) (n : Nat) (hs : stepR agent d e = some n) : n ≤ 101 := by
  unfold stepR at hs
  split at hs
  · simp at hs; omega
  · cases hd : d e.parent with
    | none => rw [hd] at hs; cases hs
    | some k =>
      rw [hd] at hs
      simp at hs
      have := bound_step h hn _ _ hd
      omega
theorem mass_none (N : Nat) : ∀ l : List En, mass l N (fun _ => none) = l.length * (N + 1)
  | [] => by simp [mass]
  | e :: l => by
    have ih := mass_none N l
    unfold mass at ih ⊢
    simp only [List.map_cons, List.sum_cons, ih, List.length_cons]
    show N + 1 + l.length * (N + 1) = _
    rw [Nat.add_mul, Nat.one_mul, Nat.add_comm]
def ShutTo (agent : ByteArray) (l : List En) (d : ByteArray → Option Nat) (k : Nat) : Prop :=
  ∀ j, (hj : j < l.length) → j < k → ∀ n, stepR agent d l[j] = some n → ∃ m, d l[j].path = some m ∧ m ≤ n

set_option maxRecDepth 100000 in
set_option maxHeartbeats 4000000 in
theorem far_any (A : Option Addr) (c : Nat) (l : List En) (agent : ByteArray) (w : World) (h : EnsAt w A l) (hn : l.length ≤ 100) (ha : agent.size ≤ maxLen) (hsz : ∀ e ∈ l, e.path.size ≤ maxLen ∧ e.parent.size ≤ maxLen) :
    Calls Try.prog 21 #[.slice A l.length c, .string agent] w (FarP agent l w) := by
  have hmm := @run_makeMap Try.prog
  have HE := Lib.hid h
  have HZ := Lib.hid hsz
  clear h hsz
  go_enter Try.func21, Try.ntmps21
  go_upto_region 2 with ((with_reducible refine wpList_insert_agent rfl (.tmp 14) (.tmp 16) (.const (.int .i64 0)) rfl w rfl rfl agent ha rfl rfl ?_); intro w1 hm1 hg1)
  obtain ⟨M0, hM0⟩ : ∃ M0, M0 = mass l l.length (fun _ => none) := ⟨_, rfl⟩
  have hM1 : M0 ≤ 20000 := by
    rw [hM0, mass_none]
    have := Nat.mul_le_mul hn (show l.length + 1 ≤ 101 by omega)
    omega
  have HM := Lib.hid hm1
  have HB : Hid (Below w.heap.size w w1) := Lib.hid (((Below.refl _ w).alloc (Nat.le_refl _) _).grown hg1 (by rw [World.size_alloc]; omega) (fun b hb => by cases hb; exact Nat.le_refl _))
  have HM0 := Lib.hid hM0
  clear hm1 hg1 hmm hM0
  obtain ⟨B, hB⟩ : ∃ B, B = w.heap.size := ⟨_, rfl⟩
  rw [← hB] at HM ⊢
  have HBB := Lib.hid hB
  clear hB
  go_wp2_with fail
  go_loopg [6] (2 * M0 + 1) (fun gg cv wr => ∃ (d : ByteArray → Option Nat) (N : Nat) (ch : Bool), cv = .bool ch ∧ Hid (MapR wr B N agent d) ∧ Hid (Way agent l d) ∧ Hid (ch = false → ShutTo agent l d l.length) ∧ N + mass l l.length d ≤ M0 + 1 ∧ 2 * mass l l.length d + (if ch = true then 1 else 0) ≤ gg ∧ Hid (Below w.heap.size w wr))
  case atStart => exact ⟨_, 1, true, rfl, HM, Lib.hid (way_none agent l), Lib.hid (fun h => by cases h), by rw [← HM0.out]; omega, by rw [← HM0.out]; simp, HB⟩
  case round =>
    clear HM HB
    obtain ⟨d0, N0, ch0, rfl, m0, y0, s0, n0, g0, b0⟩ := hrel
    cases ch0 with
    | false =>
      have HD : Hid (Done agent l d0) := Lib.hid ⟨y0.out, fun e he n hs => by
        obtain ⟨j, hj, rfl⟩ := List.getElem_of_mem he
        exact s0.out rfl j hj hj n hs⟩
      go_wp2_with fail
      go_ret
      exact ⟨B, N0, d0, rfl, by rw [HBB.out]; exact Nat.le_refl _, m0.out, HD.out, b0.out⟩
    | true =>
      obtain ⟨X0, hX0⟩ : ∃ X0, X0 = mass l l.length d0 := ⟨_, rfl⟩
      rw [← hX0] at n0 g0
      have HX0 := Lib.hid hX0
      clear hX0
      simp only [if_true] at g0
      go_wp2_with fail
      go_loopw [6, 25] (fun cv q wr => ∃ (k : Nat) (d : ByteArray → Option Nat) (N : Nat) (ch : Bool), k ≤ l.length ∧ q = .int .i64 k ∧ cv = .bool ch ∧ Hid (MapR wr B N agent d) ∧ Hid (Way agent l d) ∧ Hid (ch = false → ShutTo agent l d k) ∧ N + mass l l.length d ≤ M0 + 1 ∧ mass l l.length d + (if ch = true then 1 else 0) ≤ X0 ∧ Hid (Below w.heap.size w wr)) (fun _ q _ => l.length - (intOf q).toNat)
      case atStart => exact ⟨0, d0, N0, false, by omega, rfl, rfl, m0, y0, Lib.hid (fun _ j _ h => by omega), by rw [← HX0.out]; exact n0, by rw [← HX0.out]; simp, b0⟩
      case round =>
        clear m0 y0 s0 b0
        obtain ⟨k, d, N, ch, hk, rfl, rfl, m1, y1, s1, n1, x1, b1⟩ := hrel
        by_cases hlt : k < l.length
        · have k0 : (0 : Int) ≤ (k : Int) := by omega
          have k1 : (k : Int) < (l.length : Int) := by omega
          obtain ⟨b, o, rfl, hbl, hce⟩ := (HE.out.below b1.out).at_ (by omega)
          obtain ⟨z0, z1, z2, z3, z4⟩ := hce k hlt
          have he := List.getElem_mem hlt
          have hz := HZ.out _ he
          have hp1 := hz.1
          have hp2 := hz.2
          have hbd := bound_step y1.out hn
          have MEM := Lib.hid he
          have SH : Hid (∀ d' : ByteArray → Option Nat, ShutTo agent l d' k → (∀ n, stepR agent d' l[k] = some n → ∃ m, d' l[k].path = some m ∧ m ≤ n) → ShutTo agent l d' (k + 1)) := Lib.hid fun d' h1 h2 j hj hjk n hs => by
            by_cases c : j = k
            · subst c; exact h2 n hs
            · exact h1 j hj (by omega) n hs
          have WS := Lib.hid (fun n => way_step y1.out l[k] he n)
          have MS := Lib.hid (fun n => mass_step y1.out l[k] he n)
          have BS := Lib.hid (fun n => bound_step2 y1.out hn l[k] n)
          clear hce he hz
          generalize l[k] = e at *
          have al1 : ∀ (wx : World) (ox : Obj), Below w.heap.size w wx → Below w.heap.size w (wx.alloc ox) := fun wx ox hx => hx.alloc hx.size ox
          have M3 : Hid (MapR (((wr.alloc (.cells #[.int .i64 e.n, .string e.path, .string e.parent, .int .i64 e.ttl, .slice e.A e.sel.length e.c] 28)).alloc (.cells #[.int .i64 e.n, .string e.path, .string e.parent, .int .i64 e.ttl, .slice e.A e.sel.length e.c] 28)).alloc (.cells #[.bool false, .string e.path] 50)) B N agent d) := Lib.hid (((m1.out.below ((Below.refl _ _).alloc (Nat.le_refl _) _)).below ((Below.refl _ _).alloc (Nat.le_refl _) _)).below ((Below.refl _ _).alloc (Nat.le_refl _) _))
          have B3 : Hid (Below w.heap.size w (((wr.alloc (.cells #[.int .i64 e.n, .string e.path, .string e.parent, .int .i64 e.ttl, .slice e.A e.sel.length e.c] 28)).alloc (.cells #[.int .i64 e.n, .string e.path, .string e.parent, .int .i64 e.ttl, .slice e.A e.sel.length e.c] 28)).alloc (.cells #[.bool false, .string e.path] 50))) := Lib.hid (al1 _ _ (al1 _ _ (al1 _ _ b1.out)))
          have sc := step_any B N agent d e (wr.alloc (.cells #[.int .i64 e.n, .string e.path, .string e.parent, .int .i64 e.ttl, .slice e.A e.sel.length e.c] 28)) (m1.out.below ((Below.refl _ _).alloc (Nat.le_refl _) _)) hp2 (fun p n hp => by have := hbd p n hp; omega)
          clear al1
          cases hs : stepR agent d e with
          | none =>
            rw [hs] at sc
            have SC : Hid (Calls Try.prog 22 #[.map (some B), e.agg] (wr.alloc (.cells #[.int .i64 e.n, .string e.path, .string e.parent, .int .i64 e.ttl, .slice e.A e.sel.length e.c] 28)) fun en w' => en = .returned (.tuple #[.int .i64 1, .bool false]) ∧ w' = (wr.alloc (.cells #[.int .i64 e.n, .string e.path, .string e.parent, .int .i64 e.ttl, .slice e.A e.sel.length e.c] 28)).alloc (.cells #[.int .i64 e.n, .string e.path, .string e.parent, .int .i64 e.ttl, .slice e.A e.sel.length e.c] 28)) := Lib.hid sc
            have S2 : Hid (ch = false → ShutTo agent l d (k + 1)) := Lib.hid fun h => SH.out d (s1.out h) (fun n hn => by rw [hs] at hn; cases hn)
            clear sc hs
            go_wp2_with (first
              | (go_at_call 22; (with_reducible refine SC.out.mono ?_); rintro en w2 ⟨rfl, rfl⟩)
              | (at_lookup; (with_reducible refine wpList_look_path rfl (.tmp 39) (.tmp 40) rfl rfl M3.out e.path hp1 rfl ?_)))
            go_roundw
            case rel => exact ⟨k + 1, d, N, ch, by omega, by go_num, rfl, M3, y1, S2, n1, x1, B3⟩
            case measure => simp [intOf]; omega
          | some m =>
            rw [hs] at sc
            have SC : Hid (Calls Try.prog 22 #[.map (some B), e.agg] (wr.alloc (.cells #[.int .i64 e.n, .string e.path, .string e.parent, .int .i64 e.ttl, .slice e.A e.sel.length e.c] 28)) fun en w' => en = .returned (.tuple #[.int .i64 m, .bool true]) ∧ w' = (wr.alloc (.cells #[.int .i64 e.n, .string e.path, .string e.parent, .int .i64 e.ttl, .slice e.A e.sel.length e.c] 28)).alloc (.cells #[.int .i64 e.n, .string e.path, .string e.parent, .int .i64 e.ttl, .slice e.A e.sel.length e.c] 28)) := Lib.hid sc
            have hm : m ≤ 1000000 := by have := BS.out m hs; omega
            have hN : N < maxLen := by unfold maxLen; omega
            clear sc
            cases hd : d e.path with
            | none =>
              have HD : Hid (d e.path = none) := Lib.hid hd
              have Y2 := Lib.hid (WS.out m hs (fun x hx => by rw [hd] at hx; cases hx))
              have X2 := MS.out m hs (fun x hx => by rw [hd] at hx; cases hx)
              clear hs hd
              go_wp2_with (first
                | (go_at_call 22; (with_reducible refine SC.out.mono ?_); rintro en w2 ⟨rfl, rfl⟩)
                | (at_lookup; (with_reducible refine wpList_look_path rfl (.tmp 39) (.tmp 40) rfl rfl M3.out e.path hp1 rfl ?_); rw [HD.out])
                | (at_mapUpdate; (with_reducible refine wpList_store_path rfl (.tmp 54) (.tmp 55) (.tmp 56) rfl rfl M3.out hN e.path hp1 rfl m hm rfl ?_); intro w4 hm4 hg4; have M4 := Lib.hid hm4; have G4 := Lib.hid hg4; clear hm4 hg4))
              go_roundw
              case rel => exact ⟨k + 1, upd d e.path m, N + 1, true, by omega, by go_num, rfl, M4, Y2, Lib.hid (fun h => by cases h), by omega, by simp; split at x1 <;> omega, Lib.hid (B3.out.grown G4.out B3.out.size (fun j hj => by cases hj; rw [HBB.out]; exact Nat.le_refl _))⟩
              case measure => simp [intOf]; omega
            | some old =>
              have HD : Hid (d e.path = some old) := Lib.hid hd
              by_cases hless : m < old
              · have hli : (m : Int) < (old : Int) := by omega
                have Y2 := Lib.hid (WS.out m hs (fun x hx => by rw [hd] at hx; injection hx with hx; omega))
                have X2 := MS.out m hs (fun x hx => by rw [hd] at hx; injection hx with hx; omega)
                clear hs hd
                go_wp2_with (first
                  | (go_at_call 22; (with_reducible refine SC.out.mono ?_); rintro en w2 ⟨rfl, rfl⟩)
                  | (at_lookup; (with_reducible refine wpList_look_path rfl (.tmp 39) (.tmp 40) rfl rfl M3.out e.path hp1 rfl ?_); rw [HD.out])
                  | (at_mapUpdate; (with_reducible refine wpList_store_path rfl (.tmp 54) (.tmp 55) (.tmp 56) rfl rfl M3.out hN e.path hp1 rfl m hm rfl ?_); intro w4 hm4 hg4; have M4 := Lib.hid hm4; have G4 := Lib.hid hg4; clear hm4 hg4))
                go_roundw
                case rel => exact ⟨k + 1, upd d e.path m, N + 1, true, by omega, by go_num, rfl, M4, Y2, Lib.hid (fun h => by cases h), by omega, by simp; split at x1 <;> omega, Lib.hid (B3.out.grown G4.out B3.out.size (fun j hj => by cases hj; rw [HBB.out]; exact Nat.le_refl _))⟩
                case measure => simp [intOf]; omega
              · have hli : ¬ (m : Int) < (old : Int) := by omega
                have S2 : Hid (ch = false → ShutTo agent l d (k + 1)) := Lib.hid fun h => SH.out d (s1.out h) (fun n hn => by rw [hs] at hn; injection hn with hn; exact ⟨old, hd, by omega⟩)
                clear hs hd
                go_wp2_with (first
                  | (go_at_call 22; (with_reducible refine SC.out.mono ?_); rintro en w2 ⟨rfl, rfl⟩)
                  | (at_lookup; (with_reducible refine wpList_look_path rfl (.tmp 39) (.tmp 40) rfl rfl M3.out e.path hp1 rfl ?_); rw [HD.out]))
                go_roundw
                case rel => exact ⟨k + 1, d, N, ch, by omega, by go_num, rfl, M3, y1, S2, n1, x1, B3⟩
                case measure => simp [intOf]; omega
        · have k1 : ¬ (k : Int) < (l.length : Int) := by omega
          have S2 : Hid (ch = false → ShutTo agent l d l.length) := Lib.hid fun h j hj hjk => s1.out h j hj (by omega)
          go_wp2_with fail
          go_roundg (2 * mass l l.length d + (if ch = true then 1 else 0))
          case measure =>
            cases ch
            · simp at x1 ⊢; omega
            · simp at x1 ⊢; omega
          case rel => exact ⟨d, N, ch, rfl, m1, y1, S2, n1, Nat.le_refl _, b1⟩
end Go.Proofs.Ytcbfmpnkadkpdaa
