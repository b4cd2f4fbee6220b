/- Digits, Bytes, cut, few: the walks. -/
import Derived.Test.YtbgcdfhnnmopdaaT4
namespace Go.Proofs.Ytbgcdfhnnmopdaa
open Go.RowKit

/-- A row's values, of the first n of f. -/
def vals (k : IntKind) (f : Nat → Int) (n : Nat) : List Value := (List.range n).map fun i => Value.int k (f i)
theorem vals_len (k : IntKind) (f : Nat → Int) (n : Nat) : (vals k f n).length = n := by simp [vals]
theorem vals_succ (k : IntKind) (f : Nat → Int) (n : Nat) : vals k f (n + 1) = vals k f n ++ [.int k (f n)] := by simp [vals, List.range_succ]
theorem vals_at (k : IntKind) (f : Nat → Int) (n i : Nat) (h : i < n) : (vals k f n)[i]? = some (.int k (f i)) := by simp [vals, h]

theorem rd_own {w : World} {base : Nat} {e : TypeId} {k : IntKind} {A : Option Addr} {n c : Nat} {f : Nat → Int} (h : w.ownsRow base e 1 (.slice A n c) n (vals k f n)) (hf : ∀ i, 0 ≤ f i ∧ f i ≤ 255) : Rd w k A n f := by
  refine ⟨fun hn => ?_, hf⟩
  rcases h.2 with ⟨_, h0⟩ | ⟨g, cap, cur, hv, hb, hg, _⟩
  · omega
  · injection hv with hA
    refine ⟨g, 0, hA, (Array.getElem?_eq_some_iff.1 hg).1, fun i hi => ?_⟩
    have := h.cells (g := g) (by rw [hA]; rfl) i _ (vals_at k f n i hi)
    rwa [Addr.add_lit] at this
theorem own_shape {w : World} {base : Nat} {e : TypeId} {size : Nat} {v : Value} {n : Nat} {xs : List Value} (h : w.ownsRow base e size v n xs) : ∃ A c, v = .slice A n c := by
  rcases h.2 with ⟨rfl, h0⟩ | ⟨g, cap, cur, rfl, _⟩
  · rw [h0]; exact ⟨_, _, rfl⟩
  · exact ⟨_, _, rfl⟩

/-- Digits that a call tells. -/
def Digs (w0 : World) (n : Nat) (f : Nat → Int) (e : Ending) (w' : World) : Prop := ∃ A c, e = .returned (.slice A n c) ∧ Rd w' .i64 A n f ∧ Below w0.heap.size w0 w'

theorem info3 : (Try.prog.info? 3).map (fun i => (i.zero, i.size, i.bytes)) = some (some (.int .i64 0), 1, 8) := by kernel_rfl

set_option maxRecDepth 100000 in
set_option maxHeartbeats 1000000 in
theorem digits_any (A : Option Addr) (n c : Nat) (f : Nat → Int) (w : World) (h : Rd w .u8 A n f) (hn : n ≤ 1000) :
    Calls Try.prog 19 #[.slice A n c] w (Digs w n f) := by
  obtain ⟨i0, hi0, hz0, hz1, hz2⟩ := info_parts info3
  have HC := Lib.hid h.1
  have HR := Lib.hid h.2
  clear h
  go_enter Try.func19, Try.ntmps19
  go_wp2_with fail
  go_loopw [3, 4] (fun v q wr => ∃ k : Nat, k ≤ n ∧ q = .int .i64 k ∧ wr.ownsRow w.heap.size 3 1 v k (vals .i64 f k) ∧ Below w.heap.size w wr) (fun _ q _ => n - (intOf q).toNat)
  case atStart => exact ⟨0, by omega, rfl, World.ownsRow_nil _ _ _ _, Below.refl _ _⟩
  case round =>
    obtain ⟨k, hk, rfl, ho, hb⟩ := hrel
    by_cases hlt : k < n
    · obtain ⟨b, o, rfl, hbl, hcell⟩ := HC.out (by omega)
      have xk := (hb.cell (p := ⟨b, o + k, none⟩) hbl).trans (hcell k hlt)
      have HO := Lib.hid ho
      have HB := Lib.hid hb
      have HS := Lib.hid (vals_succ .i64 f k)
      have k0 : (0 : Int) ≤ (k : Int) := by omega
      have k1 : (k : Int) < (n : Int) := by omega
      have r := HR.out k
      clear ho hb hcell
      go_wp2_with (at_builtin; refine wpList_append_own _ rfl (.tmp 11) (.tmp 17) 30 rfl w.heap.size 3 i0 _ 1 8 Try.underlying30 hi0 hz0 hz1 hz2 rfl (by omega) _ k (vals .i64 f k) rfl (HO.out.alloc _) ⟨wr.heap.size, 0, none⟩ 1 1 [.int .i64 (f k)] rfl rfl ?c1 ?c2 ?c3 ?c4 ?c5 ?_)
      case c1 => exact World.news_of_block (cs := #[.int .i64 (f k)]) (t := 3) (fr := (0, 0)) (heap_alloc_new wr _)
      case c2 => simp [Value.oneCell']
      case c3 => unfold maxLen; omega
      case c4 => omega
      case c5 => rw [World.size_alloc]; have := HB.out.size; omega
      intro v' w1 hown1 hgrow1 _
      rw [← HS.out] at hown1
      have H1 := Lib.hid hown1
      have H2 := Lib.hid hgrow1
      clear hown1 hgrow1
      go_wp2_with fail
      go_roundw
      case rel => exact ⟨k + 1, by omega, by go_num, H1.out, (HB.out.alloc HB.out.size _).grown H2.out (by rw [World.size_alloc]; have := HB.out.size; omega) (fun b hb => (HO.out.lt b hb).1)⟩
      case measure => simp [intOf]; omega
    · have hkn : k = n := by omega
      subst hkn
      have HO := Lib.hid ho
      have HB := Lib.hid hb
      clear ho hb
      go_wp2_with fail
      go_ret
      obtain ⟨A', c', rfl⟩ := own_shape HO.out
      exact ⟨A', c', rfl, rd_own HO.out HR.out, HB.out⟩
end Go.Proofs.Ytbgcdfhnnmopdaa
