/- What is told is new: the walk. -/
import Derived.Test.YtnccgbcmencncaaA
namespace Go.Proofs.Ytnccgbcmencncaa
open Go.RowKit

set_option maxHeartbeats 4000000 in
theorem owns_walk (A : Option Addr) (n c : Nat) (l : List Pk) (w : World) (ha : ArgPks w A n l) :
    Calls Try.prog 3 #[.slice A n c] w fun e w' => e = .returned (.bool true) ∧ Below w.heap.size w w' := by
  obtain ⟨hlen, hmax, hok, hcell⟩ := ha
  have HC := Lib.hid hcell
  have HO := Lib.hid hok
  have HL := Lib.hid hlen
  unfold maxLen at hmax
  clear hcell hok hlen
  go_enter Try.func3, Try.ntmps3
  go_wp2_with (go_at_call 7; refine (new_lives _).mono ?_; rintro e w1 ⟨rfl, n1⟩; have N1 := Lib.hid n1; clear n1)
  go_loopw [4] (fun i wr => ∃ k : Nat, k ≤ n ∧ k ≤ 20 ∧ i = .int .i64 k ∧ Lives w wr (l.take k)) (fun i _ => 20 - (intOf i).toNat)
  case atStart => exact ⟨0, by omega, by omega, rfl, N1.out⟩
  case round =>
    obtain ⟨k, hk, hk20, rfl, hf⟩ := hrel
    obtain ⟨wo, rfl⟩ : ∃ wo : World, wo = wr := ⟨_, rfl⟩
    have HF := Lib.hid hf
    clear hf
    have HN0 : Hid (l.length = n) := HL.out
    by_cases hlt : k < n ∧ k < 20
    · obtain ⟨h1, h2⟩ := hlt
      obtain ⟨b, o, rfl, hadb, hcs⟩ := HC.out (by omega)
      have hk2 : k < l.length := by have := HN0.out; omega
      obtain ⟨x, y, z⟩ := hcs k l[k] (List.getElem?_eq_getElem hk2)
      have HT := Lib.hid (List.take_succ_eq_append_getElem hk2)
      have hb0 := HF.out.1
      have x' := (hb0.cell (p := ⟨b, o + k * 3, none⟩) hadb).trans x
      have y' := (hb0.cell (p := ⟨b, o + k * 3 + 1, none⟩) hadb).trans y
      have z' := (hb0.cell (p := ⟨b, o + k * 3 + 2, none⟩) hadb).trans z
      have d1 : decide ((k : Int) < (n : Int)) = true := by simp; omega
      have d2 : decide ((k : Int) < 20) = true := by simp; omega
      have i1 : (k : Int) < (n : Int) := by omega
      have i0 : (0 : Int) ≤ (k : Int) := by omega
      clear x y z hcs hb0
      have HB : Hid ((l.take k).length < 60) := by show _ < _; rw [List.length_take]; omega
      generalize l[k] = q at *
      go_wp2_with (go_at_call 8; refine (put_lives q HF.out).mono ?_; rintro e w2 ⟨rfl, f2⟩; have F2 := Lib.hid f2; clear f2)
      go_roundw
      case rel => exact ⟨k + 1, by omega, by omega, by go_num, by rw [HT.out]; have := F2.out; rw [putList_lt HB.out] at this; exact this⟩
      case measure => simp [intOf]; omega
    · have HK : Hid (¬ (k < n ∧ k < 20)) := hlt
      obtain ⟨L, hL⟩ : ∃ L, L = l.take k := ⟨_, rfl⟩
      have hmk : L.length ≤ 20 := by rw [hL, List.length_take]; omega
      have HLn : Hid (∀ (i : Nat) (q : Pk), L[i]? = some q → l[i]? = some q) := by
        rw [hL]
        intro i q hq
        rw [List.getElem?_take] at hq
        split at hq
        · exact hq
        · cases hq
      have HLo : Hid (∀ i (h : i < L.length), L[i].data.size ≤ 140737488351232) := by
        intro i h
        exact (HO.out L[i] (List.mem_of_getElem? (HLn.out i L[i] (List.getElem?_eq_getElem h)))).2.2
      have HLl : Hid (L.length ≤ n) := by
        show _ ≤ _
        rw [hL, List.length_take]
        omega
      have HF2 : Hid (Lives w wo L) := by rw [hL]; exact HF.out
      clear HF hL HK
      by_cases hkn : k < n
      case' pos =>
        have d1 : decide ((k : Int) < (n : Int)) = true := by simp; omega
        have d2 : decide ((k : Int) < 20) = false := by simp; omega
        have i2 : ¬ (k : Int) < 20 := by omega
      case' neg =>
        have d1 : decide ((k : Int) < (n : Int)) = false := by simp; omega
        have i2 : ¬ (k : Int) < (n : Int) := by omega
      all_goals
        clear hlt
        go_wp2_with (go_at_call 9; refine (all_lives HF2.out (by omega)).mono ?_; rintro e w2 ⟨A2, c2, rfl, o2, f2, b2⟩; have F2 := Lib.hid f2; have O2 := Lib.hid o2; have B2 := Lib.hid b2; clear f2 o2 b2)
        go_loopw [6] (fun i wr2 => ∃ (j : Nat) (la : List Pk), j ≤ L.length ∧ i = .int .i64 j ∧ la.length = L.length ∧ wr2.ownsRow wo.heap.size 28 3 (.slice A2 L.length c2) L.length (pks la) ∧ (∀ t, j ≤ t → la[t]? = L[t]?) ∧ Below wo.heap.size wo wr2) (fun i _ => L.length - (intOf i).toNat)
        case atStart => exact ⟨0, L, by omega, rfl, rfl, O2.out, fun _ _ => rfl, B2.out⟩
        case round =>
          obtain ⟨j, la, hj, rfl, hla, ho, hrest, hbl⟩ := hrel
          by_cases hjl : j < L.length
          · obtain ⟨g, hA2⟩ : ∃ g, A2 = some ⟨g, 0, none⟩ := by
              rcases ho.2 with ⟨_, h0⟩ | ⟨g, cap, cur, hv, _⟩
              · omega
              · injection hv with hv; exact ⟨g, hv⟩
            subst hA2
            rw [← hla] at ho
            have hcell := cellsAt ho j (by omega)
            have hq : la[j]? = some L[j] := (hrest j (Nat.le_refl _)).trans (List.getElem?_eq_getElem hjl)
            have hq2 := (List.getElem?_eq_some_iff.1 hq).2
            rw [hq2] at hcell
            have hsz := HLo.out j hjl
            obtain ⟨_, _, z⟩ := hcell
            obtain ⟨cur, _, hcb, _⟩ := own_cur ho
            have hz := hcb.frozen (j * 3 + 2)
            have i1 : (j : Int) < (L.length : Int) := by omega
            have i0 : (0 : Int) ≤ (j : Int) := by omega
            have HQ := Lib.hid hq
            have HLA := Lib.hid hla
            have HOW := Lib.hid ho
            have HR := Lib.hid hrest
            have HBL := Lib.hid hbl
            have HSZ : ∀ x : ByteArray, x.size ≤ 140737488351232 → x.size + 1 ≤ 9223372036854775807 := fun x h => by omega
            have hsz2 := HSZ _ hsz
            clear hq hla ho hrest hbl hq2 hcb HSZ
            generalize hq : L[j] = q at *
            clear hq
            go_wp2_with fail
            go_roundw
            case rel =>
              have hw := own_setText HOW.out HQ.out (q.data ++ ⟨#[120]⟩)
              rw [HLA.out] at hw
              refine ⟨j + 1, _, by omega, by go_num, by rw [List.length_set]; exact HLA.out, hw, fun t ht => ?_, ?_⟩
              · rw [List.getElem?_set_ne (by omega)]
                exact HR.out t (by omega)
              · refine HBL.out.setCell (p := ⟨g, j * 3 + 2, none⟩) ?_ _
                exact (HOW.out.lt g rfl).1
            case measure => simp [intOf]; omega
          · have HBL := Lib.hid hbl
            have HLL : L.length ≤ 1000 := by omega
            clear hla ho hrest hbl
            go_wp2_with (go_at_call 9; refine (all_lives (lives_below HF2.out HBL.out) HLL).mono ?_; rintro e w4 ⟨A4, c4, rfl, o4, f4, b4⟩; have F4 := Lib.hid f4; have O4 := Lib.hid o4; clear f4 o4 b4)
            go_loopw [8] (fun i wr2 => ∃ (t : Nat), t ≤ L.length ∧ i = .int .i64 t ∧ ∃ m, wr2 = w4.drewN m) (fun i _ => L.length - (intOf i).toNat)
            case atStart => exact ⟨0, by omega, rfl, 0, rfl⟩
            case round =>
              obtain ⟨t, ht, rfl, m, rfl⟩ := hrel
              by_cases htl : t < L.length
              · obtain ⟨g, hA4⟩ : ∃ g, A4 = some ⟨g, 0, none⟩ := by
                  rcases O4.out.2 with ⟨_, h0⟩ | ⟨g, cap, cur, hv, _⟩
                  · omega
                  · injection hv with hv; exact ⟨g, hv⟩
                subst hA4
                obtain ⟨x, y, z⟩ := cellsAt O4.out t htl
                have htn : t < n := by have := HLl.out; omega
                obtain ⟨b, o, rfl, hadb, hcs⟩ := HC.out (by omega)
                obtain ⟨x1, y1, z1⟩ := hcs t L[t] (HLn.out t L[t] (List.getElem?_eq_getElem htl))
                have hb0 := F4.out.1
                have x' := (hb0.cell (p := ⟨b, o + t * 3, none⟩) hadb).trans x1
                have y' := (hb0.cell (p := ⟨b, o + t * 3 + 1, none⟩) hadb).trans y1
                have z' := (hb0.cell (p := ⟨b, o + t * 3 + 2, none⟩) hadb).trans z1
                have i1 : (t : Int) < (L.length : Int) := by omega
                have i0 : (0 : Int) ≤ (t : Int) := by omega
                have i3 : (t : Int) < (n : Int) := by omega
                have hq := run_neq_pk L[t] L[t]
                simp only [decide_true, Bool.not_true] at hq
                clear x1 y1 z1 hcs hb0
                generalize L[t] = q at *
                go_wp2_with fail
                go_quiet (fail)
                go_wp2_with fail
                go_roundw
                case rel => exact ⟨t + 1, by omega, by go_num, _, rfl⟩
                case measure => simp [intOf]; omega
              · have F5 := Lib.hid (lives_drewN F4.out m)
                go_wp2_with (go_at_call 10; refine (lives_any _).mono ?_; rintro e w5 ⟨rfl, b5⟩; have B5 := Lib.hid b5; clear b5)
                go_ret
                exact ⟨rfl, F5.out.1.trans (B5.out.mono F5.out.1.size)⟩
end Go.Proofs.Ytnccgbcmencncaa
