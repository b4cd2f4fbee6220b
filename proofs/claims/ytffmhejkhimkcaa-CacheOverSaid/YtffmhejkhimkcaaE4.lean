/- Due: the walk. -/
import Derived.Test.YtffmhejkhimkcaaE3
import Derived.Deep.RegionHeld3
set_option linter.unusedVariables false
namespace Go.Proofs.Ytffmhejkhimkcaa
open Go.RowKit

/-- What Due leaves out. -/
def dueP (now : Int) (x : Kt) : Bool := !decide (halfW x.iat x.exp ≤ now)
set_option maxHeartbeats 1000000 in
theorem dueP_any (B : Nat) (now : Int) (x : Kt) (W : World) (h : Blk W B 3 #[.int .i64 now]) :
    Calls Try.prog 30 #[x.agg, .pointer (some ⟨B, 0, none⟩)] W fun en w' => en = .returned (.bool (dueP now x)) ∧ Below W.heap.size W w' := by
  have c0 := h.cell 0
  simp only [List.getElem?_toArray, List.getElem?_cons_zero] at c0
  have hlt := h.lt
  have HB : Hid (Below W.heap.size W (W.alloc (.cells #[.int .i64 x.entry, .string x.aud, .string x.token, .int .i64 x.iat, .int .i64 x.exp, .int .i64 x.used, .string x.needs] 27))) := Lib.hid ((Below.refl _ _).alloc (Nat.le_refl _) _)
  have DP : Hid (dueP now x = (!decide (halfW x.iat x.exp ≤ now))) := Lib.hid rfl
  have HH := Lib.hid (fun wx => half_any x.iat x.exp wx)
  generalize dueP now x = d at *
  generalize halfW x.iat x.exp = hf at *
  have BK : Hid (KAt (W.alloc (.cells #[.int .i64 x.entry, .string x.aud, .string x.token, .int .i64 x.iat, .int .i64 x.exp, .int .i64 x.used, .string x.needs] 27)) W.heap.size 0 x) := Lib.hid (box_kat W x)
  have C0 : Hid ((W.alloc (.cells #[.int .i64 x.entry, .string x.aud, .string x.token, .int .i64 x.iat, .int .i64 x.exp, .int .i64 x.used, .string x.needs] 27)).cell? ⟨B, 0, none⟩ = some (.int .i64 now)) := Lib.hid ((HB.out.cell (p := ⟨B, 0, none⟩) hlt).trans c0)
  clear h
  go_enter Try.func30, Try.ntmps30
  go_upto_region 1 with fail
  have y3 := BK.out.2.2.2.1
  have y4 := BK.out.2.2.2.2.1
  simp only [Nat.zero_add] at y3 y4
  have c0' := C0.out
  generalize W.alloc (.cells #[.int .i64 x.entry, .string x.aud, .string x.token, .int .i64 x.iat, .int .i64 x.exp, .int .i64 x.used, .string x.needs] 27) = W1 at *
  go_region_held (fun w' => w'.cell? ⟨B, 0, none⟩ = some (.int .i64 now) ∧ w'.cell? ⟨W.heap.size, 3, none⟩ = some (.int .i64 x.iat) ∧ w'.cell? ⟨W.heap.size, 4, none⟩ = some (.int .i64 x.exp)) (exact ⟨c0', y3, y4⟩) ((first
    | (go_at_call 31; refine (HH.out _).mono ?_; rintro e w ⟨rfl, rfl⟩)
    | (go_at_call 25; refine (over_any _ _ _).mono ?_; rintro e w ⟨rfl, rfl⟩)))
  all_goals (go_wp2_with fail)
  all_goals go_ret
  all_goals exact ⟨ret_bool DP.out.symm, HB.out.drew⟩
theorem due_pred (B : Nat) (now : Int) : Pred (fun W => Blk W B 3 #[.int .i64 now]) 30 #[.pointer (some ⟨B, 0, none⟩)] (dueP now) :=
  ⟨fun W x h => dueP_any B now x W h, fun W W' h hb => (hb.block B h.lt).trans h, enters_of Try.func30 (by kernel_rfl) rfl⟩

set_option maxRecDepth 100000 in
set_option maxHeartbeats 4000000 in
theorem due_any (base g : Nat) (v : Value) (l : List Kt) (u now : Int) (w : World) (h : CacheAt w 46 base g v l u) (hl : l.length ≤ 1000) :
    Calls Try.prog 15 #[.pointer (some ⟨g, 0, none⟩), .int .i64 now] w fun e w' => ∃ v', e = .returned v' ∧ w'.ownsRow w.heap.size 27 7 v' (keptOf (dueP now) l).length (kts (keptOf (dueP now) l)) ∧ Below w.heap.size w w' := by
  have hb1 : Below w.heap.size w (w.alloc (.cells #[.int .i64 now] 3)) := (Below.refl _ _).alloc (Nat.le_refl _) _
  have AC := Lib.hid (all_any base g v l u _ (h.only (F := fun _ => False) (Only.of_below hb1) (fun _ _ h => h)) hl)
  have B1 := Lib.hid hb1
  have XN := Lib.hid (Blk.new w 3 #[.int .i64 now])
  have hsz : (w.alloc (.cells #[.int .i64 now] 3)).heap.size = w.heap.size + 1 := World.size_alloc _ _
  have HS := Lib.hid hsz
  clear h hb1 hsz
  go_enter Try.func15, Try.ntmps15
  go_wp2_with (first
    | (go_at_call 10; (with_reducible refine AC.out.mono ?_); rintro e w2 ⟨v2, rfl, s1, s2⟩; obtain ⟨A2, c2, rfl⟩ := own_shape s1; have S1 := Lib.hid s1; have S2 := Lib.hid s2; have DC := Lib.hid (delete_any _ 30 _ _ (due_pred w.heap.size now) _ (.slice A2 l.length c2) l w2 ((s2.block _ (by rw [HS.out]; omega)).trans XN.out) (by omega) s1 (fun W gg o vs hv hW => Blk.setCells_far (by have := (own_lt s1 hv).1; rw [HS.out] at this; omega) vs o W hW)); clear s1 s2)
    | (go_at_call 18; (with_reducible refine DC.out.mono ?_); rintro e w3 ⟨v3, rfl, t1, t2, t3⟩; have T1 := Lib.hid t1; have T2 := Lib.hid t2; clear t1 t2 t3))
  go_ret
  refine ⟨_, rfl, own_weaken T1.out (by rw [HS.out]; omega), ?_⟩
  have hb := B1.out.trans (S2.out.mono B1.out.size)
  exact hb.trans (T2.out.below (hb.size) (fun k hk hf => by have := (own_lt S1.out hf).1; rw [HS.out] at this; omega))
end Go.Proofs.Ytffmhejkhimkcaa
