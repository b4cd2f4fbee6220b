/- ClosureChain: the walk. -/
import Derived.Test.YtcbfmpnkadkpdaaL1
set_option linter.unusedVariables false
namespace Go.Proofs.Ytcbfmpnkadkpdaa
open Go.RowKit

theorem idxs_get (L : List Nat) (k : Nat) (h : k < L.length) : (idxs L)[k]? = some (.int .i64 (L[k] : Nat)) := by
  unfold idxs
  rw [List.getElem?_map, List.getElem?_eq_getElem h]
  rfl
/-- What the document says of a way. -/
theorem chain_goes (agent : ByteArray) (l : List En) (n : Int) : ∀ q, (hq : q < (chainL agent (wayD agent l) l n).length) → ∃ hl : (chainL agent (wayD agent l) l n)[q] < l.length, (q + 1 = (chainL agent (wayD agent l) l n).length → l[(chainL agent (wayD agent l) l n)[q]].parent = agent) ∧
      ∀ hq2 : q + 1 < (chainL agent (wayD agent l) l n).length, ∃ hl2 : (chainL agent (wayD agent l) l n)[q + 1] < l.length, l[(chainL agent (wayD agent l) l n)[q]].parent = l[(chainL agent (wayD agent l) l n)[q + 1]].path := by
  by_cases hz : farN agent (wayD agent l) l (l.findIdx (isN n)) = 0
  · have e : chainL agent (wayD agent l) l n = [] := by unfold chainL; rw [if_pos hz]
    rw [e]
    intro q hq
    exact absurd hq (Nat.not_lt_zero q)
  · have e : chainL agent (wayD agent l) l n = chainFrom agent (wayD agent l) l (farN agent (wayD agent l) l (l.findIdx (isN n))) (l.findIdx (isN n)) := by unfold chainL; rw [if_neg hz]
    have hi : l.findIdx (isN n) < l.length := by
      by_cases c : l.findIdx (isN n) < l.length
      · exact c
      · exact absurd (farN_out c) hz
    rw [e]
    exact chainFrom_goes (wayD_done agent l) _ _ (by omega) hi ((farN_some (wayD_done agent l) hi _ hz).1 rfl)
theorem chain_len (agent : ByteArray) (l : List En) (n : Int) : (chainL agent (wayD agent l) l n).length ≤ l.length + 1 := by
  unfold chainL
  by_cases hz : farN agent (wayD agent l) l (l.findIdx (isN n)) = 0
  · rw [if_pos hz]; exact Nat.zero_le _
  · rw [if_neg hz, chainFrom_len _ _ _ _ _ (by omega)]
    exact farN_le (wayD_done agent l) _

set_option maxRecDepth 100000 in
set_option maxHeartbeats 4000000 in
theorem chain_walk (A : Option Addr) (n c : Nat) (l : List En) (num : Int) (a : ByteArray) (W : World) (g : ArgEns W A n c l) (ha : a.size ≤ reachBytes) :
    Calls Try.prog 3 #[.slice A n c, .int .i64 num, .string a] W fun e W' => e = .returned (.bool true) ∧ Below W.heap.size W W' := by
  obtain rfl := g.len
  have FW := Lib.hid (few_any A c l W (Nat.le_trans g.cap g.capm) g.cap g.capm (fun h => by obtain ⟨b, o, e, _⟩ := g.at_ h; exact ⟨b, o, e⟩))
  have EL := Lib.hid (g.ens.take 24)
  have SZ : Hid (∀ e ∈ l.take 24, e.path.size ≤ maxLen ∧ e.parent.size ≤ maxLen) := Lib.hid fun e he => g.sizes e (List.mem_of_mem_take he)
  have hL : (l.take 24).length ≤ 24 := by rw [List.length_take]; omega
  have ha' := reach_max ha
  clear g ha
  generalize l.take 24 = L at *
  have CH := Lib.hid (chain_any A c L num a W EL.out (by omega) ha' SZ.out)
  have GO := Lib.hid (chain_goes a L num)
  have CLN := chain_len a L num
  go_enter Try.func3, Try.ntmps3
  go_upto_region 4 with (first
    | (go_at_call 9; (with_reducible refine FW.out.mono ?_); rintro e w1 ⟨rfl, rfl⟩)
    | (go_at_call 10; (with_reducible refine CH.out.mono ?_); rintro e w2 ⟨A3, c3, rfl, r3, b3⟩; have R3 := Lib.hid r3; have B3 := Lib.hid b3; have RC := Lib.hid (refChain_any A c L num a w2 (EL.out.below b3) (by omega)); clear r3 b3)
    | (go_at_call 11; (with_reducible refine RC.out.mono ?_); rintro e w4 ⟨A5, c5, rfl, r5, b5⟩; have R5 := Lib.hid r5; have B5 := Lib.hid b5; have B6 := Lib.hid (B3.out.trans (b5.mono B3.out.size)); have R3' := Lib.hid (own_only (F := fun _ => False) R3.out (Only.of_below b5) (fun _ _ h => h)); clear r5 b5))
  clear FW CH RC R3 B3 B5
  generalize chainL a (wayD a L) L num = K at *
  have e1 : ((K.length : Int) == (K.length : Int)) = true := beq_self_eq_true _
  have e2 : ((K.length : Int) != (K.length : Int)) = false := by simp
  have wm : IntKind.i64.wrap ((K.length : Int) - 1) = (K.length : Int) - 1 := IntWalk.i64_in _ (by omega)
  go_wp2_with fail
  go_loopw [9, 10] (fun q _ wr => ∃ k : Nat, k ≤ K.length ∧ q = .int .i64 k ∧ Hid (Dr w4 wr)) (fun q _ _ => K.length - (intOf q).toNat)
  case atStart => exact ⟨0, by omega, rfl, Lib.hid ⟨0, rfl⟩⟩
  case round =>
    obtain ⟨k, hk, rfl, dr⟩ := hrel
    have BW : Hid (Below w1.heap.size w1 wr) := Lib.hid (by obtain ⟨nn, e⟩ := dr.out; rw [e]; exact below_n B6.out nn)
    by_cases hlt : k < K.length
    · have R3w : Hid (wr.ownsRow w1.heap.size 3 1 (.slice A3 K.length c3) K.length (idxs K)) := Lib.hid (by obtain ⟨nn, e⟩ := dr.out; rw [e]; exact own_only (F := fun _ => False) R3'.out ((Only.refl _ _).drewN nn) (fun _ _ h => h))
      have R5w := Lib.hid (show wr.ownsRow _ 3 1 (.slice A5 K.length c5) K.length (idxs K) by obtain ⟨nn, e⟩ := dr.out; rw [e]; exact own_only (F := fun _ => False) R5.out ((Only.refl _ _).drewN nn) (fun _ _ h => h))
      obtain ⟨g3, rfl, hg3, hc3⟩ := own_one R3w.out (by omega)
      obtain ⟨g5, rfl, hg5, hc5⟩ := own_one R5w.out (by omega)
      obtain ⟨hl, hlast, hnext⟩ := GO.out k hlt
      have v3 := hc3 k _ (idxs_get K k hlt)
      have v5 := hc5 k _ (idxs_get K k hlt)
      have k0 : (0 : Int) ≤ (k : Int) := by omega
      have k1 : (k : Int) < (K.length : Int) := by omega
      have i0 : ¬ (K[k] : Int) < 0 := by omega
      have i00 : (0 : Int) ≤ (K[k] : Int) := by omega
      have i1 : ¬ (K[k] : Int) ≥ (L.length : Int) := by omega
      have i11 : (K[k] : Int) < (L.length : Int) := by omega
      have e3 : ((K[k] : Int) != (K[k] : Int)) = false := by simp
      have e4 : ((K[k] : Int) == (K[k] : Int)) = true := beq_self_eq_true _
      obtain ⟨b', o, rfl, hbl, hce⟩ := (EL.out.below BW.out).at_ (by omega)
      have zp := (hce _ hl).2.2.1
      by_cases hla : k + 1 = K.length
      · have hpar := hlast hla
        have e5 : ((k : Int) == (K.length : Int) - 1) = true := by simp; omega
        have e6 := teq_true hpar
        clear hnext hlast hpar hc3 hc5 hce
        generalize K[k] = x at *
        generalize L[x].parent = p at *
        go_upto_region 9 with fail
        go_quiet (fail)
        go_wp2_with fail
        go_quiet (fail)
        go_wp2_with fail
        go_roundw
        case rel => exact ⟨k + 1, by omega, by go_num, Lib.hid (dr.out.more _)⟩
        case measure => simp [intOf]; omega
      · have hk2 : k + 1 < K.length := by omega
        obtain ⟨hl2, hpar⟩ := hnext hk2
        have v6 := hc5 (k + 1) _ (idxs_get K (k + 1) hk2)
        have zq := (hce _ hl2).2.1
        have e5 : ((k : Int) == (K.length : Int) - 1) = false := by simp; omega
        have e6 := teq_true hpar
        have wk : IntKind.i64.wrap ((k : Int) + 1) = (k : Int) + 1 := IntWalk.i64_in _ (by omega)
        have k2 : (k : Int) + 1 < (K.length : Int) := by omega
        have k3 : (0 : Int) ≤ (k : Int) + 1 := by omega
        have j0 : (0 : Int) ≤ (K[k + 1] : Int) := by omega
        have j1 : (K[k + 1] : Int) < (L.length : Int) := by omega
        clear hnext hlast hpar hc3 hc5 hce
        generalize K[k + 1] = y at *
        generalize K[k] = x at *
        generalize L[x].parent = p at *
        generalize L[y].path = qy at *
        go_upto_region 9 with fail
        go_quiet (fail)
        go_wp2_with fail
        go_quiet (fail)
        go_wp2_with fail
        go_roundw
        case rel => exact ⟨k + 1, by omega, by go_num, Lib.hid (dr.out.more _)⟩
        case measure => simp [intOf]; omega
    · have k1 : ¬ (k : Int) < (K.length : Int) := by omega
      have LV := Lib.hid (lives_any wr)
      go_wp2_with (go_at_call 12; (with_reducible refine LV.out.mono ?_); rintro e w10 ⟨rfl, hb⟩; have HB := Lib.hid hb; clear hb)
      go_ret
      exact ⟨rfl, BW.out.trans (HB.out.mono BW.out.size)⟩
end Go.Proofs.Ytcbfmpnkadkpdaa
