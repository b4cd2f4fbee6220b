/- ClosureMay: the walk. -/
import Derived.Test.YtcbfmpnkadkpdaaA
import Derived.Test.YtcbfmpnkadkpdaaC18
set_option linter.unusedVariables false
namespace Go.Proofs.Ytcbfmpnkadkpdaa
open Go.RowKit

theorem reach_max {n : Nat} (h : n ≤ reachBytes) : n ≤ maxLen := Nat.le_trans h (by unfold reachBytes maxLen; omega)
theorem reach_row {n : Nat} (h : n ≤ reachBytes) : n ≤ 140737488355328 := Nat.le_trans h (by unfold reachBytes; omega)
theorem ens_ref {w : World} {base : Nat} {A A1 : Option Addr} {c1 : Nat} {K L : List En} (h : w.ownsRow base 28 5 (.slice A1 K.length c1) K.length (ens K)) (hL : EnsAt w A L) (hK : ∀ x ∈ K, x ∈ L) : EnsAt w A1 K :=
  own_ens h rfl fun e he => hL.sel e (hK e he)
theorem fitC_mem {agent : ByteArray} {d : ByteArray → Option Nat} {l : List En} {ss : List ByteArray} {x : En} (h : x ∈ fitC agent d l ss) : x ∈ l := mayC_mem (List.mem_filter.1 h).1
theorem fit_sizes {w : World} {A : Option Addr} {agent : ByteArray} {d : ByteArray → Option Nat} {l M : List En} {ss : List ByteArray} (h : M.map core = (fitC agent d l ss).map core) (he : EnsAt w A l) : ∀ x ∈ M, x.sel.length * 16 ≤ 140737488355328 := fun x hx => by
  obtain ⟨y, hy, e⟩ := core_mem h hx
  have := (he.sel y (fitC_mem hy)).2.1
  rw [((core_eq x y).1 e).2.2.2.2]
  exact this
theorem may_len {agent : ByteArray} {d : ByteArray → Option Nat} {l M : List En} (h : M.map core = (mayC agent d l).map core) : M.length ≤ l.length := by
  have h1 := congrArg List.length h
  rw [List.length_map, List.length_map] at h1
  have h2 := List.length_filter_le (isF agent d) l
  unfold mayC at h1
  omega
theorem mayC_len (agent : ByteArray) (d : ByteArray → Option Nat) (l : List En) : (mayC agent d l).length ≤ l.length := List.length_filter_le _ _
theorem fitC_len (agent : ByteArray) (d : ByteArray → Option Nat) (l : List En) (ss : List ByteArray) : (fitC agent d l ss).length ≤ l.length := Nat.le_trans (List.length_filter_le _ _) (mayC_len agent d l)
theorem fit_len {agent : ByteArray} {d : ByteArray → Option Nat} {l M : List En} {ss : List ByteArray} (h : M.map core = (fitC agent d l ss).map core) : M.length ≤ l.length := by
  have h1 := congrArg List.length h
  rw [List.length_map, List.length_map] at h1
  have := fitC_len agent d l ss
  omega

set_option maxRecDepth 100000 in
set_option maxHeartbeats 4000000 in
theorem may_walk (A : Option Addr) (n c : Nat) (l : List En) (a : ByteArray) (A2 : Option Addr) (c2 : Nat) (ss : List ByteArray) (W : World) (g : ArgEns W A n c l) (ha : a.size ≤ reachBytes) (g2 : ArgStrs W A2 c2 ss) (hs2 : ss.length * 16 ≤ reachBytes) :
    Calls Try.prog 7 #[.slice A n c, .string a, .slice A2 ss.length c2] W fun e W' => e = .returned (.bool true) ∧ Below W.heap.size W W' := by
  obtain rfl := g.len
  have FW := Lib.hid (few_any A c l W (Nat.le_trans g.cap g.capm) g.cap g.capm (fun h => by obtain ⟨b, o, e, _⟩ := g.at_ h; exact ⟨b, o, e⟩))
  have EL := Lib.hid (g.ens.take 24)
  have SZ : Hid (∀ e ∈ l.take 24, e.path.size ≤ maxLen ∧ e.parent.size ≤ maxLen) := Lib.hid fun e he => g.sizes e (List.mem_of_mem_take he)
  have hL : (l.take 24).length ≤ 24 := by rw [List.length_take]; omega
  have SA := Lib.hid g2.at_
  have ha' := reach_max ha
  have hs' := reach_row hs2
  clear g ha g2 hs2
  generalize l.take 24 = L at *
  have MY := Lib.hid (may_w A c L a W EL.out (by omega) ha' SZ.out)
  go_enter Try.func7, Try.ntmps7
  go_upto_region 3 with (first
    | (go_at_call 9; (with_reducible refine FW.out.mono ?_); rintro e w1 ⟨rfl, rfl⟩)
    | (go_at_call 13; (with_reducible refine MY.out.mono ?_); rintro e w2 ⟨A3, c3, M, rfl, o3, m3, b3⟩; have O3 := Lib.hid o3; have M3 := Lib.hid m3; have B3 := Lib.hid b3; have RM := Lib.hid (refMay_any A c L a w2 (EL.out.below b3) (by omega)); clear o3 m3 b3)
    | (go_at_call 15; (with_reducible refine RM.out.mono ?_); rintro e w4 ⟨A5, c5, rfl, r5, b5⟩; have R5 := Lib.hid r5; have B5 := Lib.hid (B3.out.trans (b5.mono B3.out.size)); have SM := Lib.hid (same_any A3 c3 M A5 c5 (mayC a (wayD a L) L) w4 ((O3.out.below b5).ens (may_sizes M3.out EL.out)) (ens_ref r5 (EL.out.below B5.out) (fun x hx => mayC_mem hx)) (by have := may_len M3.out; omega) (by have := mayC_len a (wayD a L) L; omega)); rw [decide_eq_true M3.out] at SM; clear r5 b5)
    | (go_at_call 14; (with_reducible refine SM.out.mono ?_); rintro e w5 ⟨rfl, hd5⟩; have B6 : Hid (Below w1.heap.size w1 w5) := Lib.hid (by obtain ⟨nn, e⟩ := hd5; rw [e]; exact below_n B5.out nn); clear hd5))
  clear FW MY O3 M3 RM R5 SM B3 B5
  have FT := Lib.hid (fit_any A c L a A2 c2 ss w5 (EL.out.below B6.out) (by omega) ha' SZ.out (SA.out.below B6.out) hs')
  go_upto_region 4 with (first
    | (go_at_call 16; (with_reducible refine FT.out.mono ?_); rintro e w6 ⟨A3, c3, M, rfl, o3, m3, b3⟩; have O3 := Lib.hid o3; have M3 := Lib.hid m3; have B3 := Lib.hid b3; have B7 := Lib.hid (B6.out.trans (b3.mono B6.out.size)); have RM := Lib.hid (refFit_any A c L a A2 c2 ss w6 (EL.out.below B7.out) (by omega) (SA.out.below B7.out) hs'); clear o3 m3 b3)
    | (go_at_call 17; (with_reducible refine RM.out.mono ?_); rintro e w8 ⟨A5, c5, rfl, r5, b5⟩; have R5 := Lib.hid r5; have B8 := Lib.hid (B7.out.trans (b5.mono B7.out.size)); have SM := Lib.hid (same_any A3 c3 M A5 c5 (fitC a (wayD a L) L ss) w8 ((O3.out.below b5).ens (fit_sizes M3.out EL.out)) (ens_ref r5 (EL.out.below B8.out) (fun x hx => fitC_mem hx)) (by have := fit_len M3.out; omega) (by have := fitC_len a (wayD a L) L ss; omega)); rw [decide_eq_true M3.out] at SM; clear r5 b5)
    | (go_at_call 14; (with_reducible refine SM.out.mono ?_); rintro e w9 ⟨rfl, hd5⟩; have B9 : Hid (Below w1.heap.size w1 w9) := Lib.hid (by obtain ⟨nn, e⟩ := hd5; rw [e]; exact below_n B8.out nn); clear hd5))
  clear FT O3 M3 RM R5 SM B3 B6 B7 B8
  have LV := Lib.hid (lives_any w9)
  go_wp2_with (go_at_call 12; (with_reducible refine LV.out.mono ?_); rintro e w10 ⟨rfl, hb⟩; have HB := Lib.hid hb; clear hb)
  go_ret
  exact ⟨rfl, B9.out.trans (HB.out.mono B9.out.size)⟩
end Go.Proofs.Ytcbfmpnkadkpdaa
