/- Bytes, cut: the walks. -/
import Derived.Test.YtbgcdfhnnmopdaaS4
namespace Go.Proofs.Ytbgcdfhnnmopdaa
open Go.RowKit

theorem rd_own8 {w : World} {base : Nat} {e : TypeId} {v : Value} {n : Nat} {f : Nat → Int} (h : w.ownsRow base e 1 v (n + 1) (vals .u8 f (n + 1))) (hf : ∀ i, 0 ≤ f i ∧ f i ≤ 255) : ∃ r cap, v = .slice (some ⟨r, 0, none⟩) (n + 1) cap ∧ base ≤ r ∧ Rd w .u8 (some ⟨r, 0, none⟩) (n + 1) f := by
  have hs := h
  rcases h.2 with ⟨_, h0⟩ | ⟨g, cap, cur, rfl, hb, _⟩
  · simp at h0
  · exact ⟨g, cap, rfl, hb, rd_own (A := some ⟨g, 0, none⟩) hs hf⟩

set_option maxRecDepth 100000 in
set_option maxHeartbeats 1000000 in
theorem bytes_any (A : Option Addr) (n c : Nat) (f : Nat → Int) (w : World) (h : Rd w .i64 A n f) (hn : n ≤ 1000000) :
    Calls Try.prog 16 #[.slice A n c] w (Own w (sumTo (fun i => if i < n then f i else 0) 32)) := by
  obtain ⟨d, hd⟩ : ∃ d : Nat → Int, d = fun i => if i < n then f i else 0 := ⟨_, rfl⟩
  rw [← hd]
  obtain ⟨i0, hi0, hz0, hz1, hz2⟩ := info_parts info5
  have DR : Hid (∀ i, 0 ≤ d i ∧ d i ≤ 255) := Lib.hid fun i => by
    rw [hd]
    have := h.2 i
    show 0 ≤ (if i < n then f i else 0) ∧ (if i < n then f i else 0) ≤ 255
    split <;> omega
  have D1 : Hid (∀ i, i < n → d i = f i) := Lib.hid fun i hi => by rw [hd]; exact if_pos hi
  have D2 : Hid (∀ i, ¬ i < n → d i = 0) := Lib.hid fun i hi => by rw [hd]; exact if_neg hi
  have HC := Lib.hid h.1
  clear h hd
  go_enter Try.func16, Try.ntmps16
  go_wp2_with fail
  go_loopw [3, 4] (fun v q wr => ∃ k : Nat, k ≤ 32 ∧ q = .int .i64 k ∧ wr.ownsRow w.heap.size 5 1 v k (vals .u8 d k) ∧ Below w.heap.size w wr) (fun _ q _ => 32 - (intOf q).toNat)
  case atStart => exact ⟨0, by omega, rfl, World.ownsRow_nil _ _ _ _, Below.refl _ _⟩
  case round =>
    obtain ⟨k, hk, rfl, ho, hb⟩ := hrel
    by_cases hlt : k < 32
    · have k0 : (0 : Int) ≤ (k : Int) := by omega
      have k1 : (k : Int) < 32 := by omega
      have HO := Lib.hid ho
      have HB := Lib.hid hb
      have HS := Lib.hid (vals_succ .u8 d k)
      have hdk : Hid (IntKind.u8.wrap (d k) = d k) := Lib.hid (by have := DR.out k; rw [IntKind.wrap_u8]; omega)
      by_cases hkn : k < n
      · obtain ⟨b, o, rfl, hbl, hcell⟩ := HC.out (by omega)
        have xk := (hb.cell (p := ⟨b, o + k, none⟩) hbl).trans (hcell k hkn)
        have k2 : (k : Int) < (n : Int) := by omega
        rw [← D1.out k hkn] at xk
        have hdw := hdk.out
        clear hcell
        clear ho hb hkn
        go_wp2_with (at_builtin; refine wpList_append_own _ rfl (.tmp 18) (.tmp 21) 22 rfl w.heap.size 5 i0 _ 1 1 Try.underlying22 hi0 hz0 hz1 hz2 rfl (by omega) _ k (vals .u8 d k) rfl (HO.out.alloc _) ⟨wr.heap.size, 0, none⟩ 1 1 [.int .u8 (d k)] rfl rfl ?c1 ?c2 ?c3 ?c4 ?c5 ?_)
        try (case c1 => exact World.news_of_block (cs := #[.int .u8 (d k)]) (t := 5) (fr := (0, 0)) (heap_alloc_new wr _))
        case c2 => simp [Value.oneCell']
        case c3 => unfold maxLen; omega
        case c4 => omega
        case c5 => (try rw [World.size_alloc]); have := HB.out.size; omega
        intro v' w1 hown1 hgrow1 _
        rw [← HS.out] at hown1
        have H1 := Lib.hid hown1
        have H2 := Lib.hid hgrow1
        clear hown1 hgrow1
        go_wp2_with fail
        go_roundw
        case rel => exact ⟨k + 1, by omega, by go_num, H1.out, (HB.out.alloc HB.out.size _).grown H2.out (by rw [World.size_alloc]; have := HB.out.size; omega) (fun b hb => (HO.out.lt b hb).1)⟩
        case measure => simp [intOf]; omega
      · have k2 : ¬ (k : Int) < (n : Int) := by omega
        have HS : Hid (vals .u8 d (k + 1) = vals .u8 d k ++ [.int .u8 0]) := by rw [← D2.out k hkn]; exact HS
        clear ho hb hkn
        go_wp2_with (at_builtin; refine wpList_append_own _ rfl (.tmp 18) (.tmp 21) 22 rfl w.heap.size 5 i0 _ 1 1 Try.underlying22 hi0 hz0 hz1 hz2 rfl (by omega) _ k (vals .u8 d k) rfl (HO.out.alloc _) ⟨wr.heap.size, 0, none⟩ 1 1 [.int .u8 (0)] rfl rfl ?c1 ?c2 ?c3 ?c4 ?c5 ?_)
        try (case c1 => exact World.news_of_block (cs := #[.int .u8 (0)]) (t := 5) (fr := (0, 0)) (heap_alloc_new wr _))
        case c2 => simp [Value.oneCell']
        case c3 => unfold maxLen; omega
        case c4 => omega
        case c5 => (try rw [World.size_alloc]); have := HB.out.size; omega
        intro v' w1 hown1 hgrow1 _
        rw [← HS.out] at hown1
        have H1 := Lib.hid hown1
        have H2 := Lib.hid hgrow1
        clear hown1 hgrow1
        go_wp2_with fail
        go_roundw
        case rel => exact ⟨k + 1, by omega, by go_num, H1.out, (HB.out.alloc HB.out.size _).grown H2.out (by rw [World.size_alloc]; have := HB.out.size; omega) (fun b hb => (HO.out.lt b hb).1)⟩
        case measure => simp [intOf]; omega
    · have hk32 : k = 32 := by omega
      subst hk32
      have HO := Lib.hid ho
      have HB := Lib.hid hb
      clear ho hb
      go_wp2_with fail
      go_ret
      obtain ⟨r, cap, rfl, h1, h2⟩ := rd_own8 (n := 31) HO.out DR.out
      exact ⟨r, cap, d, rfl, h1, h2, rfl, HB.out⟩

theorem cut_any (A : Option Addr) (n c m : Nat) (f : Nat → Int) (w : World) (h : Rd w .u8 A n f) (hc : n ≤ c) (hm : m ≤ 1000) :
    Calls Try.prog 22 #[.slice A n c, .int .i64 m] w (Digs w (min n m) f) := by
  by_cases hlt : m < n
  · obtain ⟨b, o, rfl, _⟩ := h.1 (by omega)
    have k1 : (m : Int) < (n : Int) := by omega
    have k2 : (0 : Int) ≤ (m : Int) := by omega
    have k3 : (m : Int) ≤ (c : Int) := by omega
    have km : min n m = m := by omega
    rw [km]
    have HD := Lib.hid (digits_any (some ⟨b, o, none⟩) m c f w (h.short (by omega)) hm)
    clear h
    go_enter Try.func22, Try.ntmps22
    go_wp2_with (go_at_call 19; refine HD.out.mono ?_; rintro e w' ⟨A', c', rfl, h1, h2⟩; have H1 := Lib.hid h1; have H2 := Lib.hid h2; clear h1 h2)
    go_ret
    exact ⟨A', c', rfl, H1.out, H2.out⟩
  · have k1 : ¬ (m : Int) < (n : Int) := by omega
    have km : min n m = n := by omega
    rw [km]
    have HD := Lib.hid (digits_any A n c f w h (by omega))
    clear h
    go_enter Try.func22, Try.ntmps22
    go_wp2_with (go_at_call 19; refine HD.out.mono ?_; rintro e w' ⟨A', c', rfl, h1, h2⟩; have H1 := Lib.hid h1; have H2 := Lib.hid h2; clear h1 h2)
    go_ret
    exact ⟨A', c', rfl, H1.out, H2.out⟩
end Go.Proofs.Ytbgcdfhnnmopdaa
