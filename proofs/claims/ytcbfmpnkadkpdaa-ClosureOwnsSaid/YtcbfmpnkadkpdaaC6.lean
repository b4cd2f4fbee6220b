/- slices.Clone of texts, own, May: the walks. -/
import Derived.Test.YtcbfmpnkadkpdaaC5
set_option linter.unusedVariables false
namespace Go.Proofs.Ytcbfmpnkadkpdaa
open Go.RowKit Go.Maps

def strs (ss : List ByteArray) : List Value := ss.map Value.string
theorem strs_len (ss : List ByteArray) : (strs ss).length = ss.length := by simp [strs]
theorem strs_one (ss : List ByteArray) : ∀ u ∈ strs ss, u.oneCell' = true := by
  intro u hu
  simp only [strs, List.mem_map] at hu
  obtain ⟨s, _, rfl⟩ := hu
  rfl
theorem strs_at {w : World} {base n : Nat} {A : Option Addr} {c : Nat} {ss : List ByteArray} (h : w.ownsRow base 9 1 (.slice A n c) n (strs ss)) (hn : ss.length = n) : StrsAt w A ss := fun hp => by
  rcases h.2 with ⟨_, h0⟩ | ⟨gg, cap, cur, hv, _⟩
  · omega
  · injection hv with hv
    subst hv
    have hc := h.cells (g := gg) rfl
    refine ⟨gg, 0, rfl, (own_lt h rfl).2, fun i hi => ?_⟩
    have := hc i (.string ss[i]) (by simp [strs, hi])
    rw [show (⟨gg, 0, none⟩ : Addr).add i = ⟨gg, 0 + i, none⟩ by unfold Addr.add; split <;> simp_all] at this
    exact this

/-- Texts of a call's own. -/
def StrP (w : World) (ss : List ByteArray) (e : Ending) (w' : World) : Prop :=
  ∃ A c, e = .returned (.slice A ss.length c) ∧ w'.ownsRow w.heap.size 9 1 (.slice A ss.length c) ss.length (strs ss) ∧ Below w.heap.size w w'

set_option maxHeartbeats 1000000 in
theorem cloneS_any (A : Option Addr) (c : Nat) (ss : List ByteArray) (w : World) (h : StrsAt w A ss) (hn : ss.length ≤ maxLen) (hn2 : ss.length * 16 ≤ 140737488355328) (hA : A = none → ss.length = 0 ∧ c = 0) :
    Calls Try.prog 31 #[.slice A ss.length c] w (StrP w ss) := by
  obtain ⟨i0, hi0, hz0, hz1, hz2⟩ := info_parts Try.info9
  have hq := fun (wx : World) (A : Option Addr) (n c : Nat) => Lib.run_eql_slice_nil (P := Try.prog) wx 26 9 A n c 0 0 Try.underlying26
  cases A with
  | none =>
    obtain ⟨h0, rfl⟩ := hA rfl
    have hs : ss = [] := List.eq_nil_of_length_eq_zero h0
    subst hs
    clear h
    go_enter Try.func31, Try.ntmps31
    go_wp2
    go_ret
    exact ⟨none, 0, rfl, World.ownsRow_nil _ _ _ _, Below.refl _ _⟩
  | some a =>
    have HH := Lib.hid h
    have hsrc : Hid (∀ (w' : World), Below w.heap.size w w' → ∀ j u, (strs ss)[j]? = some u → w'.cell? (a.add j) = some u) := Lib.hid fun w' hb j u hu => by
      have hj : j < ss.length := by
        have := (List.getElem?_eq_some_iff.1 hu).1
        rwa [strs_len] at this
      obtain ⟨b, o, e, hlt, hc⟩ := HH.out (by omega)
      injection e with e
      subst e
      rw [show (⟨b, o, none⟩ : Addr).add j = ⟨b, o + j, none⟩ by unfold Addr.add; split <;> simp_all]
      rw [hb.cell (p := ⟨b, o + j, none⟩) hlt, hc j hj]
      simpa [strs, hj] using hu
    clear h hA
    go_enter Try.func31, Try.ntmps31
    go_wp2_with (at_builtin; refine wpList_append_own _ rfl (.tmp 5) (.tmp 6) 26 rfl w.heap.size 9 i0 _ 1 16 Try.underlying26 hi0 hz0 hz1 hz2 rfl (by omega) _ 0 [] rfl (World.ownsRow_made w #[] 0 (Nat.le_refl _) (by omega) rfl) a ss.length c (strs ss) rfl (by rw [strs_len, Nat.mul_one]) ?c1 ?c2 ?c3 ?c4 ?c5 ?_)
    case c1 => exact hsrc.out _ ((Below.refl _ _).alloc (Nat.le_refl _) _)
    case c2 => exact strs_one ss
    case c3 => omega
    case c4 => omega
    case c5 => simp
    intro v1 w1 hown1 hgrow1 _
    obtain ⟨A1, c1, rfl⟩ := own_shape hown1
    go_wp2
    go_ret
    exact ⟨A1, c1, rfl, hown1, ((Below.refl _ _).alloc (Nat.le_refl _) _).grown hgrow1 (by simp) (by simp [Value.ownBlock])⟩

/-- An entry's texts are a row of its own, from block base on. -/
def SelOwn (w : World) (base : Nat) (x : En) : Prop := w.ownsRow base 9 1 (.slice x.A x.sel.length x.c) x.sel.length (strs x.sel)
/-- What an entry is, but for where its texts lie. -/
def core (x : En) : Int × ByteArray × ByteArray × Int × List ByteArray := (x.n, x.path, x.parent, x.ttl, x.sel)
def OwnP (e : En) (w : World) (en : Ending) (w' : World) : Prop :=
  ∃ A c, en = .returned ({ e with A := A, c := c } : En).agg ∧ SelOwn w' w.heap.size { e with A := A, c := c } ∧ Below w.heap.size w w'

set_option maxHeartbeats 2000000 in
theorem own_any (e : En) (w : World) (h : StrsAt w e.A e.sel) (hn : e.sel.length * 16 ≤ 140737488355328) (hA : e.A = none → e.sel.length = 0 ∧ e.c = 0) :
    Calls Try.prog 25 #[e.agg] w (OwnP e w) := by
  have hb0 : Below w.heap.size w ((w.alloc (.cells #[.int .i64 e.n, .string e.path, .string e.parent, .int .i64 e.ttl, .slice e.A e.sel.length e.c] 28)).alloc (.cells #[.int .i64 0, .string ⟨#[]⟩, .string ⟨#[]⟩, .int .i64 0, .slice none 0 0] 28)) := ((Below.refl _ _).alloc (Nat.le_refl _) _).alloc (by rw [World.size_alloc]; omega) _
  have C := Lib.hid (cloneS_any e.A e.c e.sel _ (h.below hb0) (by unfold maxLen; omega) hn hA)
  have HB0 := Lib.hid hb0
  have BX : Hid (Blk ((w.alloc (.cells #[.int .i64 e.n, .string e.path, .string e.parent, .int .i64 e.ttl, .slice e.A e.sel.length e.c] 28)).alloc (.cells #[.int .i64 0, .string ⟨#[]⟩, .string ⟨#[]⟩, .int .i64 0, .slice none 0 0] 28)) w.heap.size 28 #[.int .i64 e.n, .string e.path, .string e.parent, .int .i64 e.ttl, .slice e.A e.sel.length e.c]) := Lib.hid ((Blk.new w 28 _).alloc _)
  have BR : Hid (Blk ((w.alloc (.cells #[.int .i64 e.n, .string e.path, .string e.parent, .int .i64 e.ttl, .slice e.A e.sel.length e.c] 28)).alloc (.cells #[.int .i64 0, .string ⟨#[]⟩, .string ⟨#[]⟩, .int .i64 0, .slice none 0 0] 28)) (w.heap.size + 1) 28 #[.int .i64 0, .string ⟨#[]⟩, .string ⟨#[]⟩, .int .i64 0, .slice none 0 0]) := Lib.hid (by
    have := Blk.new (w.alloc (.cells #[.int .i64 e.n, .string e.path, .string e.parent, .int .i64 e.ttl, .slice e.A e.sel.length e.c] 28)) 28 #[.int .i64 0, .string ⟨#[]⟩, .string ⟨#[]⟩, .int .i64 0, .slice none 0 0]
    rw [World.size_alloc] at this
    exact this)
  have HSZ : Hid (((w.alloc (.cells #[.int .i64 e.n, .string e.path, .string e.parent, .int .i64 e.ttl, .slice e.A e.sel.length e.c] 28)).alloc (.cells #[.int .i64 0, .string ⟨#[]⟩, .string ⟨#[]⟩, .int .i64 0, .slice none 0 0] 28)).heap.size = w.heap.size + 2) := Lib.hid (by rw [World.size_alloc, World.size_alloc])
  clear h hA hb0
  go_enter Try.func25, Try.ntmps25
  go_upto_region 1 with fail
  generalize (w.alloc (.cells #[.int .i64 e.n, .string e.path, .string e.parent, .int .i64 e.ttl, .slice e.A e.sel.length e.c] 28)).alloc (.cells #[.int .i64 0, .string ⟨#[]⟩, .string ⟨#[]⟩, .int .i64 0, .slice none 0 0] 28) = W0 at *
  have x4 := BX.out.cell 4
  simp only [List.getElem?_toArray, List.getElem?_cons_zero, List.getElem?_cons_succ] at x4
  have FX : Hid (∀ w2, Below W0.heap.size W0 w2 → w2.cell? ⟨w.heap.size, 4, none⟩ = some (.slice e.A e.sel.length e.c) ∧ w2.frozen? ⟨w.heap.size, 4, none⟩ = false) := Lib.hid fun w2 hb => by
    have b : Blk w2 w.heap.size 28 _ := (hb.block _ BX.out.lt).trans BX.out
    exact ⟨b.cell 4, b.frozen 4⟩
  go_upto_region 2 with (go_at_call 31; (with_reducible refine C.out.mono ?_); rintro en w2 ⟨A1, c1, rfl, s1, s2⟩; have f1 := (FX.out _ s2).1; have f2 := (FX.out _ s2).2; have S1 := Lib.hid s1; have S2 := Lib.hid s2; clear s1 s2)
  have b2 : Blk (w2.setCell ⟨w.heap.size, 4, none⟩ (.slice A1 e.sel.length c1)) w.heap.size 28 #[.int .i64 e.n, .string e.path, .string e.parent, .int .i64 e.ttl, .slice A1 e.sel.length c1] := Blk.set_ (show Blk w2 w.heap.size 28 #[.int .i64 e.n, .string e.path, .string e.parent, .int .i64 e.ttl, .slice e.A e.sel.length e.c] from (S2.out.block _ BX.out.lt).trans BX.out) 4 _
  have r2 : Blk (w2.setCell ⟨w.heap.size, 4, none⟩ (.slice A1 e.sel.length c1)) (w.heap.size + 1) 28 #[.int .i64 0, .string ⟨#[]⟩, .string ⟨#[]⟩, .int .i64 0, .slice none 0 0] := Blk.far (show Blk w2 (w.heap.size + 1) 28 #[.int .i64 0, .string ⟨#[]⟩, .string ⟨#[]⟩, .int .i64 0, .slice none 0 0] from (S2.out.block _ BR.out.lt).trans BR.out) (p := ⟨w.heap.size, 4, none⟩) (Nat.succ_ne_self _) _
  have hs2 : Hid ((w2.setCell ⟨w.heap.size, 4, none⟩ (.slice A1 e.sel.length c1)).ownsRow w.heap.size 9 1 (.slice A1 e.sel.length c1) e.sel.length (strs e.sel)) := Lib.hid (own_weaken (own_only (F := fun k => k = w.heap.size) S1.out (Only.setCell (F := fun k => k = w.heap.size) (p := ⟨w.heap.size, 4, none⟩) (Only.refl _ _) (.inl rfl) _) (fun k hk e => by have h1 := (own_lt S1.out hk).1; have h2 := HSZ.out; have e' : k = w.heap.size := e; omega)) (by have h2 := HSZ.out; omega))
  have hb2 : Hid (Below w.heap.size w (w2.setCell ⟨w.heap.size, 4, none⟩ (.slice A1 e.sel.length c1))) := Lib.hid ((HB0.out.trans (S2.out.mono HB0.out.size)).setCell (p := ⟨w.heap.size, 4, none⟩) (Nat.le_refl _) _)
  clear f1 f2 x4 FX C
  generalize w2.setCell ⟨w.heap.size, 4, none⟩ (.slice A1 e.sel.length c1) = W2 at *
  have y0 := b2.cell 0
  have y1 := b2.cell 1
  have y2 := b2.cell 2
  have y3 := b2.cell 3
  have y4 := b2.cell 4
  have q0 := r2.cell 0
  have q1 := r2.cell 1
  have q2 := r2.cell 2
  have q3 := r2.cell 3
  have q4 := r2.cell 4
  simp only [List.getElem?_toArray, List.getElem?_cons_zero, List.getElem?_cons_succ] at y0 y1 y2 y3 y4 q0 q1 q2 q3 q4
  have f0 := r2.frozen 0
  have f1 := r2.frozen 1
  have f2 := r2.frozen 2
  have f3 := r2.frozen 3
  have f4 := r2.frozen 4
  have R2 := Lib.hid r2
  clear r2 b2
  go_wp2_with fail
  have e5 : ((((W2.setCell ⟨w.heap.size + 1, 0, none⟩ (.int .i64 e.n)).setCell ⟨w.heap.size + 1, 1, none⟩ (.string e.path)).setCell ⟨w.heap.size + 1, 2, none⟩ (.string e.parent)).setCell ⟨w.heap.size + 1, 3, none⟩ (.int .i64 e.ttl)).setCell ⟨w.heap.size + 1, 4, none⟩ (.slice A1 e.sel.length c1) = W2.setCells (w.heap.size + 1) 0 ({ e with A := A1, c := c1 } : En).cells := rfl
  rw [e5]
  have r5 := Blk.setCells ({ e with A := A1, c := c1 } : En).cells 0 _ _ R2.out (Nat.le_refl 5)
  have o5 : Only (fun k => k = w.heap.size + 1) W2 (W2.setCells (w.heap.size + 1) 0 ({ e with A := A1, c := c1 } : En).cells) := Only.setCells (F := fun k => k = w.heap.size + 1) (.inl rfl) _ _ _ (Only.refl _ _)
  clear e5 y0 y1 y2 y3 y4 q0 q1 q2 q3 q4 f0 f1 f2 f3 f4
  generalize W2.setCells (w.heap.size + 1) 0 ({ e with A := A1, c := c1 } : En).cells = W5 at *
  have t0 := r5.cell 0
  have t1 := r5.cell 1
  have t2 := r5.cell 2
  have t3 := r5.cell 3
  have t4 := r5.cell 4
  simp [splice, En.cells] at t0 t1 t2 t3 t4
  have ne1 : ∀ k, Value.ownBlock (.slice A1 e.sel.length c1) = some k → k ≠ w.heap.size + 1 := fun k hk => by
    have h1 := (own_lt S1.out hk).1
    have h2 := HSZ.out
    omega
  have hs5 := own_only hs2.out o5 ne1
  have hb5 := hb2.out.trans (o5.below (B := w.heap.size) hb2.out.size (fun k hk e => by have e' : k = w.heap.size + 1 := e; omega))
  refine bodyPost_ret (v := ({ e with A := A1, c := c1 } : En).agg) (by simp [results, Try.results25, go_sem, t0, t1, t2, t3, t4, En.agg]) rfl ⟨A1, c1, rfl, hs5, hb5⟩
end Go.Proofs.Ytcbfmpnkadkpdaa
