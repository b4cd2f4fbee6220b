/- Reduce and MulAdd: the walks. -/
import Derived.Test.YtbgcdfhnnmopdaaS1
namespace Go.Proofs.Ytbgcdfhnnmopdaa
open Go.RowKit

/-- Bytes that a slice holds. -/
def Rd (w : World) (k : IntKind) (A : Option Addr) (n : Nat) (f : Nat → Int) : Prop :=
  (0 < n → ∃ b o, A = some ⟨b, o, none⟩ ∧ b < w.heap.size ∧ ∀ i, i < n → w.cell? ⟨b, o + i, none⟩ = some (.int k (f i))) ∧ ∀ i, 0 ≤ f i ∧ f i ≤ 255
theorem Rd.below {w w' : World} {k : IntKind} {A : Option Addr} {n : Nat} {f : Nat → Int} (h : Rd w k A n f) (hb : Below w.heap.size w w') : Rd w' k A n f := by
  refine ⟨fun hn => ?_, h.2⟩
  obtain ⟨b, o, e, hlt, hc⟩ := h.1 hn
  exact ⟨b, o, e, Nat.lt_of_lt_of_le hlt hb.size, fun i hi => (hb.cell (p := ⟨b, o + i, none⟩) hlt).trans (hc i hi)⟩
theorem Rd.short {w : World} {k : IntKind} {A : Option Addr} {n m : Nat} {f : Nat → Int} (h : Rd w k A n f) (hm : m ≤ n) : Rd w k A m f := by
  refine ⟨fun hn => ?_, h.2⟩
  obtain ⟨b, o, e, hlt, hc⟩ := h.1 (by omega)
  exact ⟨b, o, e, hlt, fun i hi => hc i (by omega)⟩

/-- 32 bytes of a call's own, of the number X. -/
def Res (w0 : World) (X : Int) (e : Ending) (w' : World) : Prop :=
  ∃ r cap g, e = .returned (.slice (some ⟨r, 0, none⟩) 32 cap) ∧ w0.heap.size ≤ r ∧ r < w'.heap.size ∧ (∀ i, i < 32 → w'.cell? ⟨r, i, none⟩ = some (.int .u8 (g i))) ∧ (∀ i, 0 ≤ g i ∧ g i ≤ 255) ∧ sumTo g 32 = X ∧ Below w0.heap.size w0 w'

theorem left_any (w0 : World) (xb : Nat) (f : Nat → Int) (w : World) (hb : Below w0.heap.size w0 w) (hxb : w0.heap.size ≤ xb) (hrow : Row w xb 34 .i64 64 f) (hf : ∀ k, k < 64 → -2200000 ≤ f k ∧ f k ≤ 2200000) :
    Calls Try.prog 20 #[.pointer (some ⟨xb, 0, none⟩)] w (Res w0 (sumTo f 64 % LV)) := by
  have hst : Start (fun k => if k < 64 then f k else 0) := ⟨fun k => by
    by_cases c : k < 64
    · rw [if_pos c]; exact hf k c
    · rw [if_neg c]; omega, fun k hk => by rw [if_neg (by omega)]⟩
  have hrow' : Row w xb 34 .i64 64 (fun k => if k < 64 then f k else 0) := hrow.congr fun k hk => by rw [if_pos hk]
  refine (left_walk xb _ w hrow' hst).mono fun e w' ⟨r, he, hr, hrow2, ho⟩ => ?_
  refine ⟨r, 32, _, he, Nat.le_trans hb.size hr, hrow2.lt, fun i hi => hrow2.cell hi, outs_range _, ?_, ?_⟩
  · rw [outs_val _ hst, sumTo_congr (g := f) fun k hk => by rw [if_pos hk]]
  · exact hb.trans (ho.below hb.size fun k hk e => by omega)

def Z64 : Array Value := #[.int .i64 0, .int .i64 0, .int .i64 0, .int .i64 0, .int .i64 0, .int .i64 0, .int .i64 0, .int .i64 0, .int .i64 0, .int .i64 0, .int .i64 0, .int .i64 0, .int .i64 0, .int .i64 0, .int .i64 0, .int .i64 0, .int .i64 0, .int .i64 0, .int .i64 0, .int .i64 0, .int .i64 0, .int .i64 0, .int .i64 0, .int .i64 0, .int .i64 0, .int .i64 0, .int .i64 0, .int .i64 0, .int .i64 0, .int .i64 0, .int .i64 0, .int .i64 0, .int .i64 0, .int .i64 0, .int .i64 0, .int .i64 0, .int .i64 0, .int .i64 0, .int .i64 0, .int .i64 0, .int .i64 0, .int .i64 0, .int .i64 0, .int .i64 0, .int .i64 0, .int .i64 0, .int .i64 0, .int .i64 0, .int .i64 0, .int .i64 0, .int .i64 0, .int .i64 0, .int .i64 0, .int .i64 0, .int .i64 0, .int .i64 0, .int .i64 0, .int .i64 0, .int .i64 0, .int .i64 0, .int .i64 0, .int .i64 0, .int .i64 0, .int .i64 0]
theorem zeros64 : ∀ i, i < Z64.size → Z64[i]? = some (.int .i64 0) := by
  intro i h0
  have h : i < 64 := h0
  match i with
  | 0 | 1 | 2 | 3 | 4 | 5 | 6 | 7 | 8 | 9 | 10 | 11 | 12 | 13 | 14 | 15 | 16 | 17 | 18 | 19 | 20 | 21 | 22 | 23 | 24 | 25 | 26 | 27 | 28 | 29 | 30 | 31 | 32 | 33 | 34 | 35 | 36 | 37 | 38 | 39 | 40 | 41 | 42 | 43 | 44 | 45 | 46 | 47 | 48 | 49 | 50 | 51 | 52 | 53 | 54 | 55 | 56 | 57 | 58 | 59 | 60 | 61 | 62 | 63 => rfl
  | n + 64 => omega

theorem run_min (w : World) (ty : TypeId) (n m : Int) : (Builtin.min_ #[3, 3] ty #[.int .i64 n, .int .i64 m]).run Try.prog w = .ok (.int .i64 (min n m)) w := by
  by_cases c : m < n
  · rw [Int.min_eq_right (by omega)]
    simp [Builtin.min_, Builtin.min2, go_sem, c]
  · rw [Int.min_eq_left (by omega)]
    simp [Builtin.min_, Builtin.min2, go_sem, c]
theorem wpList_min {w : World} {ops : Array Oper} {rest : List Oper} {o : Oper} {a : Act} {Q : Exit → Act → World → Prop} (hg : o.guard = none) (x y : Operand)
    (hop : o.op = Op.call { callee := Callee.builtin Builtin.min, args := #[x, y], argTypes := #[3, 3] }) (n m M : Int) (hx : a.eval x = .int .i64 n) (hy : a.eval y = .int .i64 m) (hM : M = min n m)
    (h : wpList Try.prog ops Q rest (a.put o.dst (.int .i64 M)) w) : wpList Try.prog ops Q (o :: rest) a w := by
  subst hM
  refine wpList_plain hg fun K hK' => ?_
  unfold Oper.wp execOp
  simp only [hop, resolve, invoke, builtin, Sem.run_bind, Sem.run_pure, Result.andThen_ok, List.map_toArray, List.map_cons, List.map_nil, hx, hy, run_min]
  exact hK' _ _ h

set_option maxRecDepth 100000 in
set_option maxHeartbeats 1000000 in
theorem reduce_any (A : Option Addr) (n c : Nat) (f : Nat → Int) (w : World) (h : Rd w .u8 A n f) (hn : n ≤ 9223372036854775807) :
    Calls Try.prog 9 #[.slice A n c] w (Res w (sumTo f (min n 64) % LV)) := by
  obtain ⟨m, hm⟩ : ∃ m, m = min n 64 := ⟨_, rfl⟩
  rw [← hm]
  have HC := Lib.hid h.1
  have HR := Lib.hid h.2
  have HM : Hid ((m : Int) = min (n : Int) 64) := by show _ = _; omega
  have hmm : m ≤ 64 := by omega
  have hmn : m ≤ n := by omega
  clear h hm
  go_enter Try.func9, Try.ntmps9
  go_wp2_with (with_reducible refine wpList_min rfl (.tmp 6) (.const (.int .i64 64)) rfl n 64 m rfl rfl HM.out ?_)
  have X0 : Hid (Row (w.alloc (.cells Z64 34)) w.heap.size 34 .i64 64 (fun _ => 0)) := World.rowIs_alloc w _ 34 _ zeros64
  have B0 : Hid (Below w.heap.size w (w.alloc (.cells Z64 34))) := (Below.refl _ _).alloc (Nat.le_refl _) _
  obtain ⟨W0, hW0⟩ : ∃ W0, W0 = w.alloc (.cells Z64 34) := ⟨_, rfl⟩
  rw [← hW0] at X0 B0
  unfold Z64 at hW0
  rw [← hW0]
  clear hW0
  go_loopw [8] (fun q wr => ∃ k : Nat, k ≤ m ∧ q = .int .i64 k ∧ Row wr w.heap.size 34 .i64 64 (fun q => if q < k then f q else 0) ∧ Below w.heap.size w wr) (fun q _ => m - (intOf q).toNat)
  case atStart => exact ⟨0, by omega, rfl, X0.out.congr fun q _ => (if_neg (Nat.not_lt_zero q)).symm, B0.out⟩
  case round =>
    obtain ⟨k, hk, rfl, hx, hb⟩ := hrel
    by_cases hlt : k < m
    · obtain ⟨b, o, rfl, hbl, hcell⟩ := HC.out (by omega)
      have xk := (hb.cell (p := ⟨b, o + k, none⟩) hbl).trans (hcell k (by omega))
      have xo := hx.cell (i := k) (by omega)
      have fz := hx.frozen k
      have HX := Lib.hid hx
      have HB := Lib.hid hb
      have k0 : (0 : Int) ≤ (k : Int) := by omega
      have k1 : (k : Int) < 64 := by omega
      have k2 : (k : Int) < (n : Int) := by omega
      have r := HR.out k
      clear hx hb hcell
      go_wp2_with fail
      go_roundw
      case rel =>
        refine ⟨k + 1, by omega, by go_num, HX.out.setTo k (f k) (fun q hq => ?_), HB.out.setCell (p := ⟨w.heap.size, k, none⟩) (Nat.le_refl _) _⟩
        by_cases c1 : q = k
        · rw [if_pos c1, if_pos (by omega), c1]
        · rw [if_neg c1]
          by_cases c2 : q < k
          · rw [if_pos c2, if_pos (by omega)]
          · rw [if_neg c2, if_neg (by omega)]
      case measure => simp [intOf]; omega
    · have hkm : k = m := by omega
      subst hkm
      have hcl := left_any w w.heap.size _ wr hb (Nat.le_refl _) hx (fun q _ => by
        have := HR.out q
        by_cases c : q < k
        · rw [if_pos c]; omega
        · rw [if_neg c]; omega)
      have hs : sumTo (fun q => if q < k then f q else 0) 64 = sumTo f k := by
        have := sumTo_tail (fun q => if q < k then f q else 0) k (fun q hq => by rw [if_neg (by omega)]) (64 - k)
        rw [show k + (64 - k) = 64 by omega] at this
        rw [this]
        exact sumTo_congr fun q hq => by rw [if_pos hq]
      rw [hs] at hcl
      have HCL := Lib.hid hcl
      clear hx hb hcl hs
      go_wp2_with (go_at_call 20; refine HCL.out.mono ?_; rintro e w2 ⟨r, cap, g, rfl, hr⟩; have HRR := Lib.hid hr; clear hr)
      go_ret
      exact ⟨r, cap, g, rfl, HRR.out⟩
end Go.Proofs.Ytbgcdfhnnmopdaa
