/- The document's Same, at texts and at entries: the walks. -/
import Derived.Test.YtcbfmpnkadkpdaaC10
set_option linter.unusedVariables false
namespace Go.Proofs.Ytcbfmpnkadkpdaa
open Go.RowKit

theorem below_n {B : Nat} {a w : World} (h : Below B a w) (n : Nat) : Below B a (w.drewN n) := below_drewN h n
theorem list_ext_get {α : Type} {l m : List α} (hl : l.length = m.length) (h : ∀ j, (hj : j < l.length) → l[j] = m[j]'(hl ▸ hj)) : l = m :=
  List.ext_getElem hl fun i h1 h2 => h i h1
theorem get_of_eq {α : Type} {l m : List α} (h : l = m) (j : Nat) (hj : j < l.length) (hj2 : j < m.length) : l[j] = m[j] := by subst h; rfl
theorem strs_drewN {w : World} {A : Option Addr} {ss : List ByteArray} (h : StrsAt w A ss) (n : Nat) : StrsAt (w.drewN n) A ss := h
theorem ens_drewN {w : World} {A : Option Addr} {l : List En} (h : EnsAt w A l) (n : Nat) : EnsAt (w.drewN n) A l := ⟨h.at_, h.sel⟩

/-- A world that only drew since. -/
def Dr (w wr : World) : Prop := ∃ n, wr = w.drewN n
theorem Dr.more {w wr : World} (h : Dr w wr) (n : Nat) : ∃ m, wr.drewN n = w.drewN m := by
  obtain ⟨k, rfl⟩ := h
  exact ⟨k + n, by rw [World.drewN_drewN]⟩
theorem Dr.strs {w wr : World} {A : Option Addr} {ss : List ByteArray} (h : Dr w wr) (hs : StrsAt w A ss) : StrsAt wr A ss := by
  obtain ⟨k, rfl⟩ := h
  exact strs_drewN hs k
theorem Dr.ens {w wr : World} {A : Option Addr} {l : List En} (h : Dr w wr) (hs : EnsAt w A l) : EnsAt wr A l := by
  obtain ⟨k, rfl⟩ := h
  exact ens_drewN hs k

set_option maxHeartbeats 1000000 in
theorem same09_any (A : Option Addr) (c : Nat) (a : List ByteArray) (A1 : Option Addr) (c1 : Nat) (b : List ByteArray) (w : World) (h : StrsAt w A a) (h1 : StrsAt w A1 b) (hn : a.length * 16 ≤ 140737488355328) (hn1 : b.length * 16 ≤ 140737488355328) :
    Calls Try.prog 26 #[.slice A a.length c, .slice A1 b.length c1] w fun e w' => e = .returned (.bool (decide (a = b))) ∧ ∃ n, w' = w.drewN n := by
  have HA := Lib.hid h
  have HB := Lib.hid h1
  clear h h1
  go_enter Try.func26, Try.ntmps26
  by_cases hl : a.length = b.length
  · have e1 : ((a.length : Int) == (b.length : Int)) = true := by simp [hl]
    have e2 : ((a.length : Int) != (b.length : Int)) = false := by simp [hl]
    have e3 : (a.length : Int) = (b.length : Int) := by omega
    go_wp2_with fail
    go_loopw [5] (fun q wr => ∃ k : Nat, k ≤ a.length ∧ q = .int .i64 k ∧ Hid (∀ j, (hj : j < a.length) → j < k → a[j] = b[j]'(hl ▸ hj)) ∧ Hid (Dr w wr)) (fun q _ => a.length - (intOf q).toNat)
    case atStart => exact ⟨0, by omega, rfl, Lib.hid fun j _ h => by omega, Lib.hid ⟨0, rfl⟩⟩
    case round =>
      obtain ⟨k, hk, rfl, hq, dr⟩ := hrel
      by_cases hlt : k < a.length
      · have hlt2 : k < b.length := by omega
        obtain ⟨b', o, rfl, hbl, hce⟩ := (dr.out.strs HA.out) (by omega)
        have z := hce k hlt
        obtain ⟨b2, o2, rfl, hbl2, hce2⟩ := (dr.out.strs HB.out) (by omega)
        have z2 := hce2 k hlt2
        have k0 : (0 : Int) ≤ (k : Int) := by omega
        have k1 : (k : Int) < (a.length : Int) := by omega
        have k2 : (k : Int) < (b.length : Int) := by omega
        clear hce hce2
        by_cases he : a[k] = b[k]
        · have HF : Hid (∀ j, (hj : j < a.length) → j < k + 1 → a[j] = b[j]'(hl ▸ hj)) := Lib.hid fun j h hj => by
            by_cases c : j = k
            · subst c; exact he
            · exact hq.out j h (by omega)
          have e4 := teq_true he
          clear he hq
          generalize a[k] = x at *
          generalize b[k] = y at *
          go_wp2_with fail
          go_quiet (fail)
          go_wp2_with fail
          go_roundw
          case rel => exact ⟨k + 1, by omega, by go_num, HF, Lib.hid (dr.out.more _)⟩
          case measure => simp [intOf]; omega
        · have HF : Hid (decide (a = b) = false) := Lib.hid (decide_eq_false fun h => he (get_of_eq h k hlt hlt2))
          have e4 := teq_false he
          clear he hq
          generalize a[k] = x at *
          generalize b[k] = y at *
          go_wp2_with fail
          go_quiet (fail)
          go_wp2_with fail
          go_ret
          exact ⟨ret_bool HF.out.symm, dr.out.more _⟩
      · have k1 : ¬ (k : Int) < (a.length : Int) := by omega
        have HF : Hid (decide (a = b) = true) := Lib.hid (decide_eq_true (list_ext_get hl fun j hj => hq.out j hj (by omega)))
        clear hq
        go_wp2_with fail
        go_ret
        exact ⟨ret_bool HF.out.symm, dr.out⟩
  · have e1 : ((a.length : Int) == (b.length : Int)) = false := by simp; omega
    have e2 : ((a.length : Int) != (b.length : Int)) = true := by simp; omega
    have HF : Hid (decide (a = b) = false) := Lib.hid (decide_eq_false fun h => hl (by rw [h]))
    go_wp2_with fail
    go_ret
    exact ⟨ret_bool HF.out.symm, 0, rfl⟩

theorem core_eq (x y : En) : core x = core y ↔ x.n = y.n ∧ x.path = y.path ∧ x.parent = y.parent ∧ x.ttl = y.ttl ∧ x.sel = y.sel := by
  unfold core
  simp

set_option maxRecDepth 100000 in
set_option maxHeartbeats 4000000 in
theorem same_any (A : Option Addr) (c : Nat) (l : List En) (A1 : Option Addr) (c1 : Nat) (m : List En) (w : World) (h : EnsAt w A l) (h1 : EnsAt w A1 m) (hn : l.length ≤ 1000) (hn1 : m.length ≤ 1000) :
    Calls Try.prog 14 #[.slice A l.length c, .slice A1 m.length c1] w fun e w' => e = .returned (.bool (decide (l.map core = m.map core))) ∧ ∃ n, w' = w.drewN n := by
  have HA := Lib.hid h
  have HB := Lib.hid h1
  clear h h1
  go_enter Try.func14, Try.ntmps14
  by_cases hl : l.length = m.length
  · have e1 : ((l.length : Int) == (m.length : Int)) = true := by simp [hl]
    have e2 : ((l.length : Int) != (m.length : Int)) = false := by simp [hl]
    have e3 : (l.length : Int) = (m.length : Int) := by omega
    go_wp2_with fail
    go_loopw [5, 6] (fun q _ wr => ∃ k : Nat, k ≤ l.length ∧ q = .int .i64 k ∧ Hid (∀ j, (hj : j < l.length) → j < k → core l[j] = core (m[j]'(hl ▸ hj))) ∧ Hid (Dr w wr)) (fun q _ _ => l.length - (intOf q).toNat)
    case atStart => exact ⟨0, by omega, rfl, Lib.hid fun j _ h => by omega, Lib.hid ⟨0, rfl⟩⟩
    case round =>
      obtain ⟨k, hk, rfl, hq, dr⟩ := hrel
      by_cases hlt : k < l.length
      · have hlt2 : k < m.length := by omega
        obtain ⟨b', o, rfl, hbl, hce⟩ := (dr.out.ens HA.out).at_ (by omega)
        obtain ⟨z0, z1, z2, z3, z4⟩ := hce k hlt
        obtain ⟨b2, o2, rfl, hbl2, hce2⟩ := (dr.out.ens HB.out).at_ (by omega)
        obtain ⟨y0, y1, y2, y3, y4⟩ := hce2 k hlt2
        have k0 : (0 : Int) ≤ (k : Int) := by omega
        have k1 : (k : Int) < (l.length : Int) := by omega
        have k2 : (k : Int) < (m.length : Int) := by omega
        have s1 := (dr.out.ens HA.out).sel _ (List.getElem_mem hlt)
        have s2 := (dr.out.ens HB.out).sel _ (List.getElem_mem hlt2)
        have SC := Lib.hid (fun nn => same09_any l[k].A l[k].c l[k].sel m[k].A m[k].c m[k].sel (wr.drewN nn) (strs_drewN s1.1 nn) (strs_drewN s2.1 nn) s1.2.1 s2.2.1)
        have HY : Hid (core l[k] = core m[k] → ∀ j, (hj : j < l.length) → j < k + 1 → core l[j] = core (m[j]'(hl ▸ hj))) := Lib.hid fun he j h hj => by
          by_cases c : j = k
          · subst c; exact he
          · exact hq.out j h (by omega)
        have HN : Hid (¬ core l[k] = core m[k] → decide (l.map core = m.map core) = false) := Lib.hid fun he => decide_eq_false fun h => he (by
          have := get_of_eq h k (by rw [List.length_map]; exact hlt) (by rw [List.length_map]; exact hlt2)
          simpa using this)
        clear hce hce2 s1 s2 hq
        generalize l[k] = x at *
        generalize m[k] = y at *
        have CE := Lib.hid (core_eq x y)
        go_upto_region 6 with fail
        go_quiet (first | (go_at_call 26; refine Calls.quiet_of (SC.out _)))
        by_cases cs : x.sel = y.sel
        · have es : decide (x.sel = y.sel) = true := decide_eq_true cs
          by_cases cn : x.n = y.n
          · have en : (x.n == y.n) = true := by simpa using cn
            have en2 : (x.n != y.n) = false := by simpa using cn
            by_cases cp : x.path = y.path
            · have ep := teq_true cp
              by_cases cq : x.parent = y.parent
              · have eq := teq_true cq
                by_cases ct : x.ttl = y.ttl
                · have et : (x.ttl == y.ttl) = true := by simpa using ct
                  have et2 : (x.ttl != y.ttl) = false := by simpa using ct
                  have HF := Lib.hid (HY.out (CE.out.2 ⟨cn, cp, cq, ct, cs⟩))
                  clear HN HY CE SC
                  go_wp2_with fail
                  go_quiet (fail)
                  go_wp2_with fail
                  go_roundw
                  case rel => exact ⟨k + 1, by omega, by go_num, HF, Lib.hid (dr.out.more _)⟩
                  case measure => simp [intOf]; omega
                · have et : (x.ttl == y.ttl) = false := by simpa using ct
                  have et2 : (x.ttl != y.ttl) = true := by simpa using ct
                  have HF := Lib.hid (HN.out (fun h => ct ((CE.out.1 h).2.2.2.1)))
                  clear HN HY CE SC
                  go_wp2_with fail
                  go_quiet (fail)
                  go_wp2_with fail
                  go_ret
                  exact ⟨ret_bool HF.out.symm, (show Dr w _ from dr.out.more _).more _⟩
              · have eq := teq_false cq
                have HF := Lib.hid (HN.out (fun h => cq ((CE.out.1 h).2.2.1)))
                clear HN HY CE SC
                go_wp2_with fail
                go_quiet (fail)
                go_wp2_with fail
                go_ret
                exact ⟨ret_bool HF.out.symm, (show Dr w _ from dr.out.more _).more _⟩
            · have ep := teq_false cp
              have HF := Lib.hid (HN.out (fun h => cp ((CE.out.1 h).2.1)))
              clear HN HY CE SC
              go_wp2_with fail
              go_quiet (fail)
              go_wp2_with fail
              go_ret
              exact ⟨ret_bool HF.out.symm, (show Dr w _ from dr.out.more _).more _⟩
          · have en : (x.n == y.n) = false := by simpa using cn
            have en2 : (x.n != y.n) = true := by simpa using cn
            have HF := Lib.hid (HN.out (fun h => cn ((CE.out.1 h).1)))
            clear HN HY CE SC
            go_wp2_with fail
            go_quiet (fail)
            go_wp2_with fail
            go_ret
            exact ⟨ret_bool HF.out.symm, (show Dr w _ from dr.out.more _).more _⟩
        · have es : decide (x.sel = y.sel) = false := decide_eq_false cs
          have HF := Lib.hid (HN.out (fun h => cs ((CE.out.1 h).2.2.2.2)))
          clear HN HY CE SC
          go_wp2_with fail
          go_quiet (fail)
          go_wp2_with fail
          go_ret
          exact ⟨ret_bool HF.out.symm, (show Dr w _ from dr.out.more _).more _⟩
      · have k1 : ¬ (k : Int) < (l.length : Int) := by omega
        have HF : Hid (decide (l.map core = m.map core) = true) := Lib.hid (decide_eq_true (list_ext_get (by rw [List.length_map, List.length_map]; exact hl) fun j hj => by
          rw [List.length_map] at hj
          rw [List.getElem_map, List.getElem_map]
          exact hq.out j hj (by omega)))
        clear hq
        go_wp2_with fail
        go_ret
        exact ⟨ret_bool HF.out.symm, dr.out⟩
  · have e1 : ((l.length : Int) == (m.length : Int)) = false := by simp; omega
    have e2 : ((l.length : Int) != (m.length : Int)) = true := by simp; omega
    have HF : Hid (decide (l.map core = m.map core) = false) := Lib.hid (decide_eq_false fun h => hl (by have := congrArg List.length h; rwa [List.length_map, List.length_map] at this))
    go_wp2_with fail
    go_ret
    exact ⟨ret_bool HF.out.symm, 0, rfl⟩
end Go.Proofs.Ytcbfmpnkadkpdaa
