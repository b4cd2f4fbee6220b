/- The document's example: the walk. -/
import Derived.Test.YtffmhejkhimkcaaC7
set_option linter.unusedVariables false
namespace Go.Proofs.Ytffmhejkhimkcaa
open Go.RowKit

def seqL : Nat → List Kt
  | 0 => []
  | i + 1 => putL (seqL i) i ⟨i, ⟨#[]⟩, ⟨#[]⟩, 0, 9, 0, ⟨#[]⟩⟩
theorem seq_wf : ∀ i : Nat, WF (seqL i) i
  | 0 => wf_nil
  | i + 1 => by
    have := putL_wf (seqL i) i ⟨i, ⟨#[]⟩, ⟨#[]⟩, 0, 9, 0, ⟨#[]⟩⟩ (seq_wf i) (by omega)
    have e : ((i + 1 : Nat) : Int) = (i : Int) + 1 := by omega
    rw [e]
    exact this
theorem seq7_len : (seqL 7).length = 6 := by decide
theorem seq7_no0 : ∀ x ∈ seqL 7, isM 0 ⟨#[]⟩ x = false := by decide
theorem seq7_exp : ∀ x ∈ seqL 7, x.exp = 9 := by decide
theorem seq7_one : ∃ x ∈ seqL 7, isM 1 ⟨#[]⟩ x = true := by decide

theorem St.to_below {w0 w : World} {T base g : Nat} {v0 v : Value} {l l0 : List Kt} {u u0 : Int} {B : Nat} (h : St w0 T base g v0 v l u w) (h0 : CacheAt w0 T base g v0 l0 u0) (hB : B ≤ base) (hs : B ≤ w0.heap.size) : Below B w0 w :=
  h.only.below hs (fun k hk hf => by
    rcases hf with rfl | hf
    · have := h0.hbase; omega
    · have := (own_lt h0.own hf).1; omega)

theorem get_miss {T base g : Nat} {v : Value} {l : List Kt} {u e : Int} {a : ByteArray} {now : Int} {w w' : World} {en : Ending} (h : GetP T base g v l u e a now w en w') (hm : ∀ x ∈ l, isM e a x = true → x.exp ≤ now) :
    en = .returned (.tuple #[.string ⟨#[]⟩, .bool false]) ∧ St w T base g v v l u w' := by
  rcases h with ⟨h1, h2, _⟩ | ⟨k, hk, h1, h2, _⟩
  · exact ⟨h1, h2⟩
  · have := hm _ (List.getElem_mem hk) h1
    omega
theorem get_hit {T base g : Nat} {v : Value} {l : List Kt} {u e : Int} {a : ByteArray} {now : Int} {w w' : World} {en : Ending} (h : GetP T base g v l u e a now w en w') (hm : ∃ x ∈ l, isM e a x = true ∧ now < x.exp) :
    ∃ k, ∃ hk : k < l.length, isM e a l[k] = true ∧ now < l[k].exp ∧ en = .returned (.tuple #[.string l[k].token, .bool true]) ∧ St w T base g v v (l.set k { l[k] with used := u + 1 }) (u + 1) w' := by
  rcases h with ⟨h1, h2, h3⟩ | h
  · obtain ⟨x, hx, hp, he⟩ := hm
    obtain ⟨i, hi, rfl⟩ := List.getElem_of_mem hx
    have := h3 i hi hp
    omega
  · exact h

theorem all_n (base g n : Nat) (v : Value) (l : List Kt) (u : Int) (w : World) (h : CacheAt w 46 base g v l u) (hl : l.length ≤ 1000) (hn : l.length = n) :
    Calls Try.prog 10 #[.pointer (some ⟨g, 0, none⟩)] w fun e w' => ∃ A c, e = .returned (.slice A n c) ∧ w'.ownsRow w.heap.size 27 7 (.slice A n c) n (kts l) ∧ Below w.heap.size w w' := by
  refine (all_any base g v l u w h hl).mono ?_
  rintro e w' ⟨v', rfl, ho, hb⟩
  rw [hn] at ho
  obtain ⟨A, c, rfl⟩ := own_shape ho
  exact ⟨A, c, rfl, ho, hb⟩

theorem put_wf (base g : Nat) (v : Value) (l : List Kt) (u : Int) (k : Kt) (w : World) (h : CacheAt w 46 base g v l u) (hw : WF l u) (hu : 0 ≤ u ∧ u ≤ 1000) (hb : base ≤ w.heap.size) :
    Calls Try.prog 9 #[.pointer (some ⟨g, 0, none⟩), k.agg] w (PutP base g v (putL l u k) (u + 1) w) :=
  put_any base g v l u k w h hu (by have := hw.few; omega) (fun i hi => by have := hw.used _ (List.getElem_mem hi); omega) hb

set_option maxRecDepth 100000 in
set_option maxHeartbeats 4000000 in
theorem lives_any (w : World) : Calls Try.prog 11 #[] w fun e w' => e = .returned (.bool true) ∧ Below w.heap.size w w' := by
  have NC := Lib.hid (new_any w)
  go_enter Try.func11, Try.ntmps11
  go_wp2_with (go_at_call 8; (with_reducible refine NC.out.mono ?_); rintro e w1 ⟨rfl, s1, s2⟩; have S1 := Lib.hid s1; have S2 := Lib.hid s2; clear s1 s2)
  go_loopw [2] (fun q wr => ∃ (i : Nat) (v : Value), i ≤ 7 ∧ q = .int .i64 i ∧ CacheAt wr 46 w.heap.size w.heap.size v (seqL i) i ∧ Below w.heap.size w wr) (fun q _ => 7 - (intOf q).toNat)
  case atStart => exact ⟨0, _, by omega, rfl, S1.out, S2.out⟩
  case round =>
    clear S1 S2
    obtain ⟨i, v, hi, rfl, hc, hb⟩ := hrel
    by_cases hlt : i < 7
    · have i1 : (i : Int) < 7 := by omega
      have pc : Calls Try.prog 9 #[.pointer (some ⟨w.heap.size, 0, none⟩), .agg #[.int .i64 i, .string ⟨#[]⟩, .string ⟨#[]⟩, .int .i64 0, .int .i64 9, .int .i64 0, .string ⟨#[]⟩]] wr (PutP w.heap.size w.heap.size v (seqL (i + 1)) (i + 1) wr) := put_wf _ _ v (seqL i) i ⟨i, ⟨#[]⟩, ⟨#[]⟩, 0, 9, 0, ⟨#[]⟩⟩ wr hc (seq_wf i) (by omega) hb.size
      have PC := Lib.hid pc
      have HC := Lib.hid hc
      have HB := Lib.hid hb
      clear hc hb pc
      go_wp2_with (go_at_call 9; (with_reducible refine PC.out.mono ?_); rintro e w2 ⟨rfl, v2, s⟩; have S := Lib.hid s; clear s)
      go_roundw
      case rel => exact ⟨i + 1, v2, by omega, by go_num, by have := S.out.at_; exact this, HB.out.trans (S.out.to_below HC.out (Nat.le_refl _) HB.out.size)⟩
      case measure => simp [intOf]; omega
    · have i1 : ¬ (i : Int) < 7 := by omega
      obtain rfl : i = 7 := by omega
      have W7 := seq_wf 7
      have e1 := seq7_len
      have e2 := seq7_no0
      have e3 := seq7_exp
      have e4 := seq7_one
      have u0 : (0 : Int) ≤ ((7 : Nat) : Int) ∧ ((7 : Nat) : Int) ≤ 900 := by omega
      generalize ((7 : Nat) : Int) = u at *
      generalize seqL 7 = L at *
      have G1 : Hid (Calls Try.prog 12 #[.pointer (some ⟨w.heap.size, 0, none⟩), .int .i64 0, .string ⟨#[]⟩, .int .i64 1] wr (GetP 46 w.heap.size w.heap.size v L u 0 ⟨#[]⟩ 1 wr)) := Lib.hid (get_any _ _ v L u 0 ⟨#[]⟩ 1 wr hc (by omega) (by omega) W7.ones.uniq)
      have HC := Lib.hid hc
      have HB := Lib.hid hb
      have WW := Lib.hid W7
      have E1 := Lib.hid e1
      have E2 := Lib.hid e2
      have E3 := Lib.hid e3
      have E4 := Lib.hid e4
      have U0 := Lib.hid u0
      clear hc hb W7 e1 e2 e3 e4 u0
      go_upto_region 9 with (go_at_call 12; (with_reducible refine G1.out.mono ?_); rintro e w1 hp; obtain ⟨rfl, hs⟩ := get_miss hp (fun x hx h => by rw [E2.out x hx] at h; cases h); have S1 := Lib.hid hs; clear hp hs)
      have G2 : Hid (Calls Try.prog 12 #[.pointer (some ⟨w.heap.size, 0, none⟩), .int .i64 1, .string ⟨#[]⟩, .int .i64 1] w1 (GetP 46 w.heap.size w.heap.size v L u 1 ⟨#[]⟩ 1 w1)) := Lib.hid (get_any _ _ v L u 1 ⟨#[]⟩ 1 w1 S1.out.at_ (by have := U0.out; omega) (by have := E1.out; omega) WW.out.ones.uniq)
      have H2 : Hid (∃ x ∈ L, isM 1 ⟨#[]⟩ x = true ∧ 1 < x.exp) := Lib.hid (by
        obtain ⟨x, hx, hp⟩ := E4.out
        exact ⟨x, hx, hp, by rw [E3.out x hx]; decide⟩)
      go_upto_region 10 with (go_at_call 12; (with_reducible refine G2.out.mono ?_); rintro e w2 hp; obtain ⟨k, hk, _, _, rfl, hs⟩ := get_hit hp H2.out; have S2 := Lib.hid hs; clear hp hs)
      have W2 := Lib.hid (wf_use L u WW.out U0.out.1 k hk)
      have X2 : Hid (∀ x ∈ L.set k { L[k] with used := u + 1 }, x.exp = 9) := Lib.hid fun x hx => by
        rcases List.mem_or_eq_of_mem_set hx with hx | hx
        · exact E3.out x hx
        · rw [hx]; exact (E3.out L[k] (List.getElem_mem hk))
      have M2 : Hid ((L.set k { L[k] with used := u + 1 }).length = 6) := Lib.hid (by rw [List.length_set]; exact E1.out)
      generalize L.set k { L[k] with used := u + 1 } = L2 at *
      generalize L[k].token = tok at *
      have G3 : Hid (Calls Try.prog 12 #[.pointer (some ⟨w.heap.size, 0, none⟩), .int .i64 1, .string ⟨#[]⟩, .int .i64 9] w2 (GetP 46 w.heap.size w.heap.size v L2 (u + 1) 1 ⟨#[]⟩ 9 w2)) := Lib.hid (get_any _ _ v L2 (u + 1) 1 ⟨#[]⟩ 9 w2 S2.out.at_ (by have := U0.out; omega) (by have := M2.out; omega) W2.out.ones.uniq)
      go_upto_region 11 with (go_at_call 12; (with_reducible refine G3.out.mono ?_); rintro e w3 hp; obtain ⟨rfl, hs⟩ := get_miss hp (fun x hx h => by rw [X2.out x hx]; decide); have S3 := Lib.hid hs; clear hp hs)
      have AC := Lib.hid (all_n _ _ 6 v L2 (u + 1) w3 S3.out.at_ (by have := M2.out; omega) M2.out)
      go_wp2_with (go_at_call 10; (with_reducible refine AC.out.mono ?_); rintro e w4 ⟨A4, c4, rfl, _, hb4⟩; have B4 := Lib.hid hb4; clear hb4)
      go_ret
      exact ⟨rfl, (((HB.out.trans (S1.out.to_below HC.out (Nat.le_refl _) HB.out.size)).trans (S2.out.to_below S1.out.at_ (Nat.le_refl _) (Nat.le_trans HB.out.size S1.out.only.size))).trans (S3.out.to_below S2.out.at_ (Nat.le_refl _) (Nat.le_trans HB.out.size (Nat.le_trans S1.out.only.size S2.out.only.size)))).trans (B4.out.mono (Nat.le_trans HB.out.size (Nat.le_trans S1.out.only.size (Nat.le_trans S2.out.only.size S3.out.only.size))))⟩
end Go.Proofs.Ytffmhejkhimkcaa
