/- ClosureOwns: the walk. -/
import Derived.Test.YtcbfmpnkadkpdaaO1
set_option linter.unusedVariables false
namespace Go.Proofs.Ytcbfmpnkadkpdaa
open Go.RowKit

theorem owns_start {w5 w2 : World} {B : Nat} {A : Option Addr} {c : Nat} {M : List En} {agent : ByteArray} {d : ByteArray → Option Nat} {l : List En} (h : OwnEns w2 B A c M) (hb : Below w2.heap.size w2 w5) (hm : M.map core = (mayC agent d l).map core) (hz : ∀ e ∈ l, e.sel.length * 16 ≤ 140737488355328 ∧ ∀ s ∈ e.sel, s.size ≤ 140737488355328) : OwI w5 B w2.heap.size A c M.length 0 M w5 :=
  ⟨h.below hb, rfl, fun k hk => (own_lt h.row hk).2, fun x hx k hk => (own_lt (h.sel x hx) hk).2, fun x hx => by
    obtain ⟨y, hy, e⟩ := core_mem hm hx
    have := (hz y (mayC_mem hy)).1
    rw [((core_eq x y).1 e).2.2.2.2]
    omega, fun x hx s hs => by
    obtain ⟨y, hy, e⟩ := core_mem hm hx
    rw [((core_eq x y).1 e).2.2.2.2] at hs
    have := (hz y (mayC_mem hy)).2 s hs
    omega, Only.refl _ _⟩

set_option maxRecDepth 100000 in
set_option maxHeartbeats 4000000 in
theorem owns_walk (A : Option Addr) (n c : Nat) (l : List En) (a : ByteArray) (W : World) (g : ArgEns W A n c l) (ha : a.size ≤ reachBytes) :
    Calls Try.prog 6 #[.slice A n c, .string a] W fun e W' => e = .returned (.bool true) ∧ Below W.heap.size W W' := by
  obtain rfl := g.len
  have FW := Lib.hid (few_any A c l W (Nat.le_trans g.cap g.capm) g.cap g.capm (fun h => by obtain ⟨b, o, e, _⟩ := g.at_ h; exact ⟨b, o, e⟩))
  have EL := Lib.hid (g.ens.take 24)
  have SZ : Hid (∀ e ∈ l.take 24, e.path.size ≤ maxLen ∧ e.parent.size ≤ maxLen) := Lib.hid fun e he => g.sizes e (List.mem_of_mem_take he)
  have TZ : Hid (∀ e ∈ l.take 24, e.sel.length * 16 ≤ 140737488355328 ∧ ∀ s ∈ e.sel, s.size ≤ 140737488355328) := Lib.hid fun e he => ⟨reach_row (g.each e (List.mem_of_mem_take he)).len, fun s hs => reach_row ((g.each e (List.mem_of_mem_take he)).sel s hs)⟩
  have hL : (l.take 24).length ≤ 24 := by rw [List.length_take]; omega
  have ha' := reach_max ha
  clear g ha
  generalize l.take 24 = L at *
  have MY := Lib.hid (may_w A c L a W EL.out (by omega) ha' SZ.out)
  go_enter Try.func6, Try.ntmps6
  go_upto_region 4 with (first
    | (go_at_call 9; (with_reducible refine FW.out.mono ?_); rintro e w1 ⟨rfl, rfl⟩)
    | (go_at_call 13; (with_reducible refine MY.out.mono ?_); rintro e w2 ⟨A3, c3, M, rfl, o3, m3, b3⟩; have O3 := Lib.hid o3; have M3 := Lib.hid m3; have B3 := Lib.hid b3; have RM := Lib.hid (refMay_any A c L a w2 (EL.out.below b3) (by omega)); clear o3 m3 b3)
    | (go_at_call 15; (with_reducible refine RM.out.mono ?_); rintro e w5 ⟨A5, c5, rfl, r5, b5⟩; have R5 := Lib.hid r5; have B5 := Lib.hid b5; clear r5 b5))
  have OI := Lib.hid (owns_start O3.out B5.out M3.out TZ.out)
  have LM := Lib.hid (Nat.le_trans (may_len M3.out) hL)
  clear FW MY RM O3 M3
  obtain ⟨S, hS⟩ : ∃ S, S = w2.heap.size := ⟨_, rfl⟩
  have R5' : Hid (w5.ownsRow S 28 5 (.slice A5 (mayC a (wayD a L) L).length c5) (mayC a (wayD a L) L).length (ens (mayC a (wayD a L) L))) := Lib.hid (by rw [hS]; exact R5.out)
  have BB := Lib.hid (B3.out.trans (B5.out.mono B3.out.size))
  rw [← hS] at OI
  have OS := Lib.hid OI.out
  clear hS R5 OI B3 B5
  go_wp2_with fail
  go_loopw [7, 8] (fun q _ wr => ∃ (i : Nat) (K : List En), i ≤ M.length ∧ q = .int .i64 i ∧ Hid (OwI w5 w1.heap.size S A3 c3 M.length (i * 8796093022208) K wr)) (fun q _ _ => M.length - (intOf q).toNat)
  case atStart => exact ⟨0, M, by omega, rfl, by rw [Nat.zero_mul]; exact OS⟩
  case round =>
    obtain ⟨i, K, hi, rfl, oi⟩ := hrel
    by_cases hlt : i < M.length
    · have h24 := LM.out
      have KL := Lib.hid oi.out.len
      have hik : i < K.length := by have := KL.out; omega
      have k0 : (0 : Int) ≤ (i : Int) := by omega
      have k1 : (i : Int) < (M.length : Int) := by omega
      obtain ⟨gg, rfl, hgl, hc⟩ := own_one oi.out.own.row (by omega)
      have x0 := hc (i * 5) _ ((ens_at K i hik 0 (by decide)).trans rfl)
      have f0 := own_free oi.out.own.row (i * 5)
      have SN := Lib.hid (oi.out.setN i hik (-7))
      clear hc
      have NK : Hid (∃ h : i < (K.set i { K[i] with n := -7 }).length, (K.set i { K[i] with n := -7 })[i].sel.length = K[i].sel.length) := Lib.hid ⟨by rw [List.length_set]; exact hik, by rw [List.getElem_set_self]⟩
      have NB := oi.out.many _ (List.getElem_mem hik)
      generalize K.set i { K[i] with n := -7 } = K1 at *
      generalize K[i].sel.length = N at *
      generalize K[i].n = kn at *
      clear oi KL
      go_upto_region 8 with fail
      clear x0 f0 hgl
      generalize wr.setCell ⟨gg, i * 5, none⟩ (.int .i64 (-7)) = W7 at *
      go_wp2_with fail
      obtain ⟨wo, rfl⟩ : ∃ wo : World, wo = wr := ⟨_, rfl⟩
      go_loopw [8] (fun q wr => ∃ (k : Nat) (K2 : List En), k ≤ N ∧ q = .int .i64 k ∧ Hid (OwI w5 w1.heap.size S (some ⟨gg, 0, none⟩) c3 M.length (i * 8796093022208 + k) K2 wr) ∧ Hid (∃ h : i < K2.length, K2[i].sel.length = N)) (fun q _ => N - (intOf q).toNat)
      case atStart => exact ⟨0, K1, by omega, rfl, by rw [Nat.add_zero]; exact SN, NK⟩
      case round =>
        clear SN NK
        obtain ⟨k, K2, hk, rfl, oi, nk⟩ := hrel
        obtain ⟨h2, hN⟩ := nk.out
        have hcell := (own_one oi.out.own.row (by omega))
        obtain ⟨g', hg', hgl, hc⟩ := hcell
        injection hg' with hg'
        injection hg' with hg'
        subst hg'
        have x4 := hc (i * 5 + 4) _ ((ens_at K2 i h2 4 (by decide)).trans rfl)
        have SO := oi.out.own.sel _ (List.getElem_mem h2)
        by_cases hkn : k < N
        · have k2 : (0 : Int) ≤ (k : Int) := by omega
          have k3 : (k : Int) < (N : Int) := by omega
          have hk2 : k < K2[i].sel.length := by omega
          obtain ⟨b, hb, hbl, hcb⟩ := own_one SO (by omega)
          have z := hcb k (.string K2[i].sel[k]) (by simp [strs, hk2])
          have zs := oi.out.sz _ (List.getElem_mem h2) _ (List.getElem_mem hk2)
          rw [hb] at x4
          unfold SelOwn at SO
          rw [hb] at SO
          have fz := own_free SO k
          have ST := Lib.hid (fun s hs => oi.out.setS i h2 b hb k s hs)
          have N2 : Hid (∀ s, ∃ h : i < (K2.set i { K2[i] with sel := K2[i].sel.set k s }).length, (K2.set i { K2[i] with sel := K2[i].sel.set k s })[i].sel.length = N) := Lib.hid fun s => ⟨by rw [List.length_set]; exact h2, by rw [List.getElem_set_self, List.length_set]; exact hN⟩
          rw [hN] at x4
          have hsum : K2[i].sel[k].size + (⟨#[120]⟩ : ByteArray).size ≤ 9223372036854775807 := by
            have : (⟨#[120]⟩ : ByteArray).size = 1 := rfl
            have := LM.out
            omega
          have hadd := fun (w : World) => run_string_add_sum (P := Try.prog) w K2[i].sel[k] ⟨#[120]⟩ hsum
          have ST2 := Lib.hid (ST.out (K2[i].sel[k] ++ ⟨#[120]⟩) (by
            have : (K2[i].sel[k] ++ (⟨#[120]⟩ : ByteArray)).size = K2[i].sel[k].size + 1 := by rw [ByteArray.size_append]; rfl
            omega))
          have N3 := Lib.hid (N2.out (K2[i].sel[k] ++ ⟨#[120]⟩))
          clear hc hcb SO hN ST N2 hb hsum zs
          generalize K2.set i { K2[i] with sel := K2[i].sel.set k (K2[i].sel[k] ++ ⟨#[120]⟩) } = K3 at *
          generalize K2[i].sel[k] = s at *
          generalize K2[i].c = cx at *
          go_upto_region 11 with fail
          go_still_tail 15, (by kernel_rfl)
          go_wp2_with fail
          go_roundw
          case rel => exact ⟨k + 1, K3, by omega, by go_num, by rw [← Nat.add_assoc]; exact Lib.hid (OwI.drewN ST2.out 1), N3⟩
          case measure => simp [intOf]; omega
        · have k3 : ¬ (k : Int) < (N : Int) := by omega
          rw [hN] at x4
          have OE : Hid (OwI w5 w1.heap.size S (some ⟨gg, 0, none⟩) c3 M.length ((i + 1) * 8796093022208) K2 wr) := Lib.hid (oi.out.more (by omega))
          clear hc SO hN oi nk
          generalize K2[i].A = Ax at *
          generalize K2[i].c = cx at *
          go_wp2_with fail
          go_roundw
          case rel => exact ⟨i + 1, K2, by omega, by go_num, OE⟩
          case measure => simp [intOf]; omega
    · have k1 : ¬ (i : Int) < (M.length : Int) := by omega
      have OW := Lib.hid oi.out.only
      have B9 : Hid (Below w1.heap.size w1 wr) := Lib.hid (BB.out.trans (oi.out.only.below BB.out.size (fun k hk h => by have := h.1; omega)))
      have R9 := Lib.hid (own_only R5'.out OW.out (fun k hk h => by have := (own_lt R5'.out hk).1; have := h.2; omega))
      have MY := Lib.hid (may_w A c L a wr (EL.out.below B9.out) (by omega) ha' SZ.out)
      clear oi OS OW R5' BB
      have ER := Lib.hid (fun w (hb : Below wr.heap.size wr w) => ens_ref (K := mayC a (wayD a L) L) (own_only (F := fun _ => False) R9.out (Only.of_below hb) (fun _ _ h => h)) (EL.out.below (B9.out.trans (hb.mono B9.out.size))) (fun x hx => mayC_mem hx))
      have LC := Lib.hid (mayC_len a (wayD a L) L)
      have SM := Lib.hid (fun w A8 c8 M8 (hb : Below wr.heap.size wr w) (o : OwnEns w wr.heap.size A8 c8 M8) (m : M8.map core = (mayC a (wayD a L) L).map core) => (same_any A8 c8 M8 A5 c5 (mayC a (wayD a L) L) w (o.ens (may_sizes m EL.out)) (ER.out w hb) (by have := may_len m; omega) (by have := LC.out; omega)).mono (fun e w' h => (show e = .returned (.bool true) ∧ ∃ n, w' = w.drewN n from ⟨h.1.trans (by rw [decide_eq_true m]), h.2⟩)))
      clear ER R9 LC
      have MY2 : Hid (Calls Try.prog 13 #[.slice A L.length c, .string a] wr fun e w' => ∃ A1 c1 M8, e = .returned (.slice A1 M8.length c1) ∧ OwnEns w' wr.heap.size A1 c1 M8 ∧ M8.map core = (mayC a (wayD a L) L).map core ∧ Below wr.heap.size wr w') := Lib.hid MY.out
      clear MY
      generalize mayC a (wayD a L) L = MC at *
      go_wp2_with (first
        | (go_at_call 13; (with_reducible refine MY2.out.mono ?_); rintro e w7 ⟨A8, c8, M8, rfl, o8, m8, b8⟩; have B8 := Lib.hid b8; have S8 := Lib.hid (SM.out _ _ _ _ b8 o8 m8); clear b8 o8 m8)
        | (go_at_call 14; (with_reducible refine S8.out.mono ?_); rintro e w8 ⟨rfl, nn, rfl⟩)
        | (go_at_call 12; (with_reducible refine (lives_any _).mono ?_); rintro e w11 ⟨rfl, h11⟩; have H11 := Lib.hid h11; clear h11))
      go_ret
      have b1 := below_n (B9.out.trans (B8.out.mono B9.out.size)) nn
      exact ⟨rfl, b1.trans (H11.out.mono b1.size)⟩
end Go.Proofs.Ytcbfmpnkadkpdaa
