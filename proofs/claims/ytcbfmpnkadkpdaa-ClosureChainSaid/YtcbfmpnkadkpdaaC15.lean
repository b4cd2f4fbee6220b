/- few; the document's May and Fit; Fit: the walks. -/
import Derived.Test.YtcbfmpnkadkpdaaC14
set_option linter.unusedVariables false
namespace Go.Proofs.Ytcbfmpnkadkpdaa
open Go.RowKit

def MayW (agent : ByteArray) (l : List En) (w : World) (e : Ending) (w' : World) : Prop :=
  ∃ A1 c1 M, e = .returned (.slice A1 M.length c1) ∧ OwnEns w' w.heap.size A1 c1 M ∧ M.map core = (mayC agent (wayD agent l) l).map core ∧ Below w.heap.size w w'
theorem may_w (A : Option Addr) (c : Nat) (l : List En) (agent : ByteArray) (w : World) (h : EnsAt w A l) (hn : l.length ≤ 100) (ha : agent.size ≤ maxLen) (hsz : ∀ e ∈ l, e.path.size ≤ maxLen ∧ e.parent.size ≤ maxLen) :
    Calls Try.prog 13 #[.slice A l.length c, .string agent] w (MayW agent l w) :=
  (may_any A c l agent w h hn ha hsz).mono fun e w' ⟨A1, c1, M, d, h1, h2, h3, h4, h5⟩ => ⟨A1, c1, M, h1, h2, by rw [done_eq h3 (wayD_done agent l)] at h4; exact h4, h5⟩

theorem few_any (A : Option Addr) (c : Nat) (l : List En) (w : World) (hn : l.length ≤ maxLen) (hc : l.length ≤ c) (hcm : c ≤ maxLen) (hA : 0 < l.length → ∃ b o, A = some ⟨b, o, none⟩) :
    Calls Try.prog 9 #[.slice A l.length c] w fun e w' => e = .returned (.slice A (l.take 24).length c) ∧ w' = w := by
  have HN := Lib.hid hn
  unfold maxLen at hn hcm
  go_enter Try.func9, Try.ntmps9
  by_cases h : 24 < l.length
  · obtain ⟨b, o, rfl⟩ := hA (by omega)
    have k1 : (l.length : Int) > 24 := by omega
    have k2 : (24 : Int) ≤ (c : Int) := by omega
    have e : (l.take 24).length = 24 := by rw [List.length_take]; omega
    rw [e]
    clear hA e
    go_wp2_with fail
    go_ret
    exact ⟨rfl, rfl⟩
  · have k1 : ¬ (l.length : Int) > 24 := by omega
    have e : (l.take 24).length = l.length := by rw [List.length_take]; omega
    rw [e]
    clear hA e
    go_wp2_with fail
    go_ret
    exact ⟨rfl, rfl⟩

def RMayP (agent : ByteArray) (l : List En) (w : World) (e : Ending) (w' : World) : Prop :=
  ∃ A1 c1, e = .returned (.slice A1 (mayC agent (wayD agent l) l).length c1) ∧ w'.ownsRow w.heap.size 28 5 (.slice A1 (mayC agent (wayD agent l) l).length c1) (mayC agent (wayD agent l) l).length (ens (mayC agent (wayD agent l) l)) ∧ Below w.heap.size w w'

set_option maxRecDepth 100000 in
set_option maxHeartbeats 4000000 in
theorem refMay_any (A : Option Addr) (c : Nat) (l : List En) (agent : ByteArray) (w : World) (h : EnsAt w A l) (hn : l.length ≤ 100) :
    Calls Try.prog 15 #[.slice A l.length c, .string agent] w (RMayP agent l w) := by
  obtain ⟨i0, hi0, hz0, hz1, hz2⟩ := info_parts Try.info28
  have HE := Lib.hid h
  have FA := Lib.hid (fars_any A c l agent (wayD agent l) w h hn (wayD_done agent l))
  clear h
  go_enter Try.func15, Try.ntmps15
  go_upto_region 3 with (go_at_call 24; (with_reducible refine FA.out.mono ?_); rintro en w1 ⟨rr, rfl, gr, rw1, hb1⟩; have RW := Lib.hid rw1; have H1 := Lib.hid hb1; have hrl := rw1.lt; have hws := hb1.size; clear rw1 hb1)
  go_wp2_with fail
  obtain ⟨S, hS⟩ : ∃ S, S = w1.heap.size := ⟨_, rfl⟩
  rw [← hS] at hrl hws
  have LS : Hid (S ≤ w1.heap.size) := Lib.hid (by omega)
  clear hS
  go_loopw [5, 7] (fun ov q wr => ∃ (k : Nat) (A1 : Option Addr) (c1 : Nat), k ≤ l.length ∧ q = .int .i64 k ∧ ov = .slice A1 (mayC agent (wayD agent l) (l.take k)).length c1 ∧ Hid (wr.ownsRow S 28 5 (.slice A1 (mayC agent (wayD agent l) (l.take k)).length c1) (mayC agent (wayD agent l) (l.take k)).length (ens (mayC agent (wayD agent l) (l.take k)))) ∧ Hid (Row wr rr 3 .i64 l.length (fun i => (farN agent (wayD agent l) l i : Int))) ∧ Hid (Below w.heap.size w wr) ∧ S ≤ wr.heap.size) (fun _ q _ => l.length - (intOf q).toNat)
  case atStart => exact ⟨0, none, 0, by omega, rfl, rfl, Lib.hid (World.ownsRow_nil _ _ _ _), RW, H1, LS.out⟩
  case round =>
    clear RW H1 LS
    obtain ⟨k, A1, c1, hk, rfl, rfl, ro, rw2, hb, hsz⟩ := hrel
    by_cases hlt : k < l.length
    · have k0 : (0 : Int) ≤ (k : Int) := by omega
      have k1 : (k : Int) < (l.length : Int) := by omega
      obtain ⟨b', o, rfl, hbl, hce⟩ := (HE.out.below hb.out).at_ (by omega)
      obtain ⟨z0, z1, z2, z3, z4⟩ := hce k hlt
      have xk := rw2.out.cell (i := k) hlt
      have FSn := Lib.hid (filter_snoc (isF agent (wayD agent l)) l k hlt)
      have FN := Lib.hid (farN_none (wayD_done agent l) hlt)
      have LM : (mayC agent (wayD agent l) (l.take k)).length ≤ 100 := by
        have h2 := List.length_filter_le (isF agent (wayD agent l)) (l.take k)
        rw [List.length_take] at h2
        unfold mayC
        omega
      have FL := farN_le (wayD_done agent l) k
      have IE : Hid (isF agent (wayD agent l) l[k] = (stepR agent (wayD agent l) l[k]).isSome) := Lib.hid rfl
      clear hce
      generalize l[k] = e at *
      by_cases hz : farN agent (wayD agent l) l k = 0
      · have g1 : ¬ ((farN agent (wayD agent l) l k : Nat) : Int) > 0 := by omega
        have E2 : Hid (mayC agent (wayD agent l) (l.take (k + 1)) = mayC agent (wayD agent l) (l.take k)) := Lib.hid (by
          unfold mayC
          rw [FSn.out, if_neg (by rw [IE.out, FN.out.1 hz]; decide), List.append_nil])
        clear hz FSn FN IE
        go_wp2_with fail
        go_roundw
        case rel => exact ⟨k + 1, A1, c1, by omega, by go_num, by rw [E2.out], by rw [E2.out]; exact ro, rw2, hb, hsz⟩
        case measure => simp [intOf]; omega
      · have g1 : ((farN agent (wayD agent l) l k : Nat) : Int) > 0 := by omega
        have E2 : Hid (mayC agent (wayD agent l) (l.take (k + 1)) = mayC agent (wayD agent l) (l.take k) ++ [e]) := Lib.hid (by
          have hsome : (stepR agent (wayD agent l) e).isSome = true := by
            cases hs : stepR agent (wayD agent l) e with
            | none => exact absurd (FN.out.2 hs) hz
            | some m => rfl
          unfold mayC
          rw [FSn.out, if_pos (by rw [IE.out]; exact hsome)])
        clear hz FSn FN IE
        generalize mayC agent (wayD agent l) (l.take k) = M at *
        go_wp2_with (at_builtin; refine wpList_append_own _ rfl (.tmp 22) (.tmp 27) 22 rfl S 28 i0 _ 5 72 Try.underlying22 hi0 hz0 hz1 hz2 rfl (by omega) _ M.length (ens M) rfl (ro.out.alloc _) ⟨wr.heap.size, 0, none⟩ 1 1 [.int .i64 e.n, .string e.path, .string e.parent, .int .i64 e.ttl, .slice e.A e.sel.length e.c] rfl rfl ?c1 ?c2 ?c3 ?c4 ?c5 ?_)
        case c1 => exact World.news_of_block (cs := #[.int .i64 e.n, .string e.path, .string e.parent, .int .i64 e.ttl, .slice e.A e.sel.length e.c]) (t := 28) (fr := (0, 0)) (heap_alloc_new wr _)
        case c2 => simp [Value.oneCell']
        case c3 => unfold maxLen; omega
        case c4 => omega
        case c5 => first | omega | (rw [World.size_alloc]; omega)
        intro v' V5 hown5 hgrow5 _
        obtain ⟨A5, c5, rfl⟩ := own_shape hown5
        have hro : ∀ kk, (Value.slice A1 M.length c1).ownBlock = some kk → S ≤ kk := fun kk hkk => (own_lt ro.out hkk).1
        have HB5 : Hid (Below w.heap.size w V5) := Lib.hid ((hb.out.alloc hb.out.size _).grown hgrow5 (by rw [World.size_alloc]; have := hb.out.size; omega) (fun kk hkk => by have := hro kk hkk; omega))
        have RW5 : Hid (Row V5 rr 3 .i64 l.length (fun i => (farN agent (wayD agent l) l i : Int))) := Lib.hid (Row.only (F := fun kk => (Value.slice A1 M.length c1).ownBlock = some kk) (rw2.out.alloc _) ((Only.refl _ _).grown hgrow5 (fun kk hkk => .inl hkk)) (fun e => by have := hro _ e; omega))
        have el : (M ++ [e]).length = M.length + 1 := by rw [List.length_append, List.length_singleton]
        have RO5 : Hid (V5.ownsRow S 28 5 (.slice A5 (mayC agent (wayD agent l) (l.take (k + 1))).length c5) (mayC agent (wayD agent l) (l.take (k + 1))).length (ens (mayC agent (wayD agent l) (l.take (k + 1))))) := Lib.hid (by rw [E2.out, el, ens_append, ens_one]; exact hown5)
        have hs5 : S ≤ V5.heap.size := by have := hgrow5.size; rw [World.size_alloc] at this; omega
        have el2 : M.length + 1 = (mayC agent (wayD agent l) (l.take (k + 1))).length := by rw [E2.out, el]
        rw [el2]
        clear hown5 hgrow5 el hro el2
        go_wp2_with fail
        go_roundw
        case rel => exact ⟨k + 1, A5, c5, by omega, by go_num, rfl, RO5, RW5, HB5, hs5⟩
        case measure => simp [intOf]; omega
    · have k1 : ¬ (k : Int) < (l.length : Int) := by omega
      rw [List.take_of_length_le (by omega : l.length ≤ k)] at *
      go_wp2_with fail
      go_ret
      exact ⟨A1, c1, rfl, own_weaken ro.out (by omega), hb.out⟩
end Go.Proofs.Ytcbfmpnkadkpdaa
