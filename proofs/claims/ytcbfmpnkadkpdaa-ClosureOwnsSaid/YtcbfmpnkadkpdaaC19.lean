/- inside: the walk. -/
import Derived.Test.YtcbfmpnkadkpdaaC17
set_option linter.unusedVariables false
namespace Go.Proofs.Ytcbfmpnkadkpdaa
open Go.RowKit

abbrev Co := Int × ByteArray × ByteArray × Int × List ByteArray
/-- How many of the first ones stand in others, in their order, each taken as soon as it comes. -/
def gr : List Co → List Co → Nat
  | [], _ => 0
  | _ :: _, [] => 0
  | x :: a, y :: b => if x = y then gr a b + 1 else gr (x :: a) b
theorem gr_le : ∀ b a : List Co, gr a b ≤ a.length
  | [], [] => Nat.le_refl _
  | [], x :: a => Nat.zero_le _
  | y :: b, [] => Nat.le_refl _
  | y :: b, x :: a => by
    unfold gr
    split
    · have := gr_le b a
      simp only [List.length_cons]
      omega
    · exact gr_le b (x :: a)
theorem gr_sub : ∀ b a : List Co, a.Sublist b → gr a b = a.length
  | [], a, h => by
    have : a = [] := List.sublist_nil.1 h
    subst this
    rfl
  | y :: b, [], h => rfl
  | y :: b, x :: a, h => by
    unfold gr
    split
    · rename_i e
      subst e
      rw [gr_sub b a (List.cons_sublist_cons.1 h)]
      rfl
    · rename_i e
      cases h with
      | cons _ h => exact gr_sub b (x :: a) h
      | cons_cons _ h => exact absurd rfl e
theorem gr_nil (b : List Co) : gr [] b = 0 := by cases b <;> rfl
theorem gr_end (a : List Co) : gr a [] = 0 := by cases a <;> rfl
theorem gr_hit (a b : List Co) (k i : Nat) (hk : k < a.length) (hi : i < b.length) (h : a[k] = b[i]) : gr (a.drop k) (b.drop i) = gr (a.drop (k + 1)) (b.drop (i + 1)) + 1 := by
  rw [List.drop_eq_getElem_cons hk, List.drop_eq_getElem_cons hi]
  show (if a[k] = b[i] then _ else _) = _
  rw [if_pos h]
theorem gr_miss (a b : List Co) (k i : Nat) (hk : k < a.length) (hi : i < b.length) (h : ¬ a[k] = b[i]) : gr (a.drop k) (b.drop i) = gr (a.drop k) (b.drop (i + 1)) := by
  rw [List.drop_eq_getElem_cons hk, List.drop_eq_getElem_cons hi]
  show (if a[k] = b[i] then _ else _) = _
  rw [if_neg h]

theorem EnsAt.one {w : World} {b o : Nat} {l : List En} (h : EnsAt w (some ⟨b, o, none⟩) l) (k : Nat) (hk : k < l.length) : EnsAt w (some ⟨b, o + k * 5, none⟩) [l[k]] :=
  ⟨fun _ => by
    obtain ⟨b', o', hA, hlt, hc⟩ := h.at_ (by omega)
    injection hA with hA
    injection hA with h1 h2
    subst h1; subst h2
    refine ⟨b, o + k * 5, rfl, hlt, fun i hi => ?_⟩
    have hi0 : i = 0 := by simpa using hi
    subst hi0
    rw [Nat.zero_mul, Nat.add_zero]
    exact hc k hk, fun e he => by rw [List.mem_singleton.1 he]; exact h.sel _ (List.getElem_mem hk)⟩
/-- Same, of one entry each. -/
theorem same_one (b1 o1 b2 o2 c1 c2 : Nat) (l m : List En) (k i : Nat) (w : World) (h1 : EnsAt w (some ⟨b1, o1, none⟩) l) (h2 : EnsAt w (some ⟨b2, o2, none⟩) m) (hk : k < l.length) (hi : i < m.length) :
    Calls Try.prog 14 #[.slice (some ⟨b1, o1 + k * 5, none⟩) 1 c1, .slice (some ⟨b2, o2 + i * 5, none⟩) 1 c2] w fun e w' => e = .returned (.bool (decide (core l[k] = core m[i]))) ∧ ∃ n, w' = w.drewN n := by
  have h := same_any (some ⟨b1, o1 + k * 5, none⟩) c1 [l[k]] (some ⟨b2, o2 + i * 5, none⟩) c2 [m[i]] w (h1.one k hk) (h2.one i hi) (by simp) (by simp)
  refine h.mono fun e w' ⟨he, hd⟩ => ⟨?_, hd⟩
  rw [he]
  refine ret_bool ?_
  simp

set_option maxRecDepth 100000 in
set_option maxHeartbeats 4000000 in
theorem inside_any (A : Option Addr) (c : Nat) (l : List En) (A1 : Option Addr) (c1 : Nat) (m : List En) (w : World) (h : EnsAt w A l) (h1 : EnsAt w A1 m) (hn : l.length ≤ 1000) (hn1 : m.length ≤ 1000) (hc : l.length ≤ c) (hc1 : m.length ≤ c1) (hcm : c ≤ maxLen) (hcm1 : c1 ≤ maxLen) :
    Calls Try.prog 18 #[.slice A l.length c, .slice A1 m.length c1] w fun e w' => e = .returned (.bool (decide (gr (l.map core) (m.map core) = l.length))) ∧ ∃ n, w' = w.drewN n := by
  have HA := Lib.hid h
  have HB := Lib.hid h1
  unfold maxLen at hcm hcm1
  clear h h1
  go_enter Try.func18, Try.ntmps18
  go_wp2_with fail
  go_loopw [5, 6, 7] (fun kv q _ wr => ∃ k i : Nat, k ≤ l.length ∧ i ≤ m.length ∧ kv = .int .i64 k ∧ q = .int .i64 i ∧ Hid (k + gr ((l.map core).drop k) ((m.map core).drop i) = gr (l.map core) (m.map core)) ∧ Hid (Dr w wr)) (fun _ q _ _ => m.length - (intOf q).toNat)
  case atStart => exact ⟨0, 0, by omega, by omega, rfl, rfl, Lib.hid (by simp), Lib.hid ⟨0, rfl⟩⟩
  case round =>
    obtain ⟨k, i, hk, hi, rfl, rfl, hg, dr⟩ := hrel
    by_cases hit : i < m.length
    · have i1 : (i : Int) < (m.length : Int) := by omega
      by_cases hkt : k < l.length
      · have k1 : (k : Int) < (l.length : Int) := by omega
        have k0 : (0 : Int) ≤ (k : Int) := by omega
        have iz : (0 : Int) ≤ (i : Int) := by omega
        have k2 : (k : Int) + 1 ≤ (c : Int) := by omega
        have i2 : (i : Int) + 1 ≤ (c1 : Int) := by omega
        have wk : IntKind.i64.wrap ((k : Int) + 1) = (k : Int) + 1 := IntWalk.i64_in _ (by omega)
        have wi : IntKind.i64.wrap ((i : Int) + 1) = (i : Int) + 1 := IntWalk.i64_in _ (by omega)
        obtain ⟨b', o, rfl, hbl, hce⟩ := HA.out.at_ (by omega)
        obtain ⟨b2, o2, rfl, hbl2, hce2⟩ := HB.out.at_ (by omega)
        have SC := Lib.hid (fun (nn ca cb : Nat) => same_one b' o b2 o2 ca cb l m k i (wr.drewN nn) (ens_drewN (dr.out.ens HA.out) nn) (ens_drewN (dr.out.ens HB.out) nn) hkt hit)
        have GH := Lib.hid (fun h => gr_hit (l.map core) (m.map core) k i (by rw [List.length_map]; exact hkt) (by rw [List.length_map]; exact hit) h)
        have GM := Lib.hid (fun h => gr_miss (l.map core) (m.map core) k i (by rw [List.length_map]; exact hkt) (by rw [List.length_map]; exact hit) h)
        simp only [List.getElem_map] at GH GM
        clear hce hce2
        by_cases he : core l[k] = core m[i]
        · have hd : decide (core l[k] = core m[i]) = true := decide_eq_true he
          have G2 : Hid ((k + 1) + gr ((l.map core).drop (k + 1)) ((m.map core).drop (i + 1)) = gr (l.map core) (m.map core)) := Lib.hid (by rw [← hg.out, GH.out he]; omega)
          simp only [hd] at SC
          clear hd he GH GM hg
          go_upto_region 5 with fail
          go_quiet (first | (go_at_call 14; refine Calls.quiet_of (SC.out _ _ _)))
          go_wp2_with fail
          go_roundw
          case rel => exact ⟨k + 1, i + 1, by omega, by omega, by go_num, by go_num, G2, Lib.hid (dr.out.more _)⟩
          case measure => simp [intOf]; omega
        · have hd : decide (core l[k] = core m[i]) = false := decide_eq_false he
          have G2 : Hid (k + gr ((l.map core).drop k) ((m.map core).drop (i + 1)) = gr (l.map core) (m.map core)) := Lib.hid (by rw [← hg.out, GM.out he])
          simp only [hd] at SC
          clear hd he GH GM hg
          go_upto_region 5 with fail
          go_quiet (first | (go_at_call 14; refine Calls.quiet_of (SC.out _ _ _)))
          go_wp2_with fail
          go_roundw
          case rel => exact ⟨k, i + 1, by omega, by omega, rfl, by go_num, G2, Lib.hid (dr.out.more _)⟩
          case measure => simp [intOf]; omega
      · have k1 : ¬ (k : Int) < (l.length : Int) := by omega
        have hkl : k = l.length := by omega
        have G2 : Hid (decide (gr (l.map core) (m.map core) = l.length) = true) := Lib.hid (decide_eq_true (by
          rw [← hg.out, List.drop_of_length_le (by rw [List.length_map]; omega), gr_nil]
          omega))
        have e1 : ((k : Int) == (l.length : Int)) = true := by rw [hkl]; exact beq_self_eq_true _
        clear hg
        go_wp2_with fail
        go_ret
        exact ⟨ret_bool (by rw [G2.out]), dr.out⟩
    · have i1 : ¬ (i : Int) < (m.length : Int) := by omega
      have G1 : Hid (gr (l.map core) (m.map core) = k) := Lib.hid (by
        rw [← hg.out, List.drop_of_length_le (l := m.map core) (by rw [List.length_map]; omega), gr_end]
        omega)
      clear hg
      by_cases hkl : k = l.length
      · have e1 : ((k : Int) == (l.length : Int)) = true := by rw [hkl]; exact beq_self_eq_true _
        have G2 : Hid (decide (gr (l.map core) (m.map core) = l.length) = true) := Lib.hid (decide_eq_true (by rw [G1.out, hkl]))
        go_wp2_with fail
        go_ret
        exact ⟨ret_bool (by rw [G2.out]), dr.out⟩
      · have e1 : ((k : Int) == (l.length : Int)) = false := by simp; omega
        have G2 : Hid (decide (gr (l.map core) (m.map core) = l.length) = false) := Lib.hid (decide_eq_false (by rw [G1.out]; exact hkl))
        go_wp2_with fail
        go_ret
        exact ⟨ret_bool (by rw [G2.out]), dr.out⟩
end Go.Proofs.Ytcbfmpnkadkpdaa
