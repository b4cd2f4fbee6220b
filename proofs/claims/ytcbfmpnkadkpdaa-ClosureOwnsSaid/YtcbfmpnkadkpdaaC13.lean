/- Chain: the walk. -/
import Derived.Test.YtcbfmpnkadkpdaaC12
set_option linter.unusedVariables false
namespace Go.Proofs.Ytcbfmpnkadkpdaa
open Go.RowKit

theorem below_cellOf {w w' : World} (h : Below w.heap.size w w') {a : Addr} {v : Value} (hc : w.cell? a = some v) : w'.cell? a = some v := (h.cell (World.block_lt_of_cell? w a hc)).trans hc
theorem map_blk_ne {w : World} {b N g : Nat} {agent : ByteArray} {d : ByteArray → Option Nat} {t : TypeId} {cs : Array Value} (h : MapR w b N agent d) (h' : Blk w g t cs) : b ≠ g := by
  rintro rfl
  obtain ⟨D, ⟨es, clock, h1, h2⟩, h3⟩ := h
  unfold Blk at h'
  rw [h'] at h1
  cases h1
theorem two_below (w : World) (o1 o2 : Obj) : Below w.heap.size w ((w.alloc o1).alloc o2).drew := (((Below.refl _ _).alloc (Nat.le_refl _) _).alloc (by rw [World.size_alloc]; omega) _).drew
theorem blk_two (w : World) (o : Obj) (t : TypeId) (cs : Array Value) : Blk ((w.alloc o).alloc (.cells cs t)).drew (w.heap.size + 1) t cs := by
  have := Blk.new (w.alloc o) t cs
  rw [World.size_alloc] at this
  exact this
theorem NextI.store9 {B8 B9 B3 B7 b N : Nat} {agent : ByteArray} {d : ByteArray → Option Nat} {A : Option Addr} {c : Nat} {l : List En} {left left' i : Nat} {w0 W : World} (h : NextI B8 B9 B3 B7 b N agent d A c l left i W) (he : EnsAt w0 A l) (hb : Below w0.heap.size w0 W) (h98 : B9 ≠ B8) (h93 : B9 ≠ B3) (h97 : B9 ≠ B7) (h0 : w0.heap.size ≤ B9) :
    NextI B8 B9 B3 B7 b N agent d A c l left' i (W.setCell ⟨B9, 0, none⟩ (.int .i64 left')) :=
  ⟨h.m8.far (p := ⟨B9, 0, none⟩) (Ne.symm h98) _, h.m9.set_ 0 _, h.m3.far (p := ⟨B9, 0, none⟩) (Ne.symm h93) _, h.m7.far (p := ⟨B9, 0, none⟩) (Ne.symm h97) _, h.map.only (F := fun k => k = B9) (Only.setCell (F := fun k => k = B9) (p := ⟨B9, 0, none⟩) (Only.refl _ _) (.inl rfl) _) (fun e => map_blk_ne h.map h.m9 e), he.below (hb.setCell (p := ⟨B9, 0, none⟩) h0 _)⟩
theorem NextI.store7 {B8 B9 B3 B7 b N : Nat} {agent : ByteArray} {d : ByteArray → Option Nat} {A : Option Addr} {c : Nat} {l : List En} {left i i' : Nat} {w0 W : World} (h : NextI B8 B9 B3 B7 b N agent d A c l left i W) (he : EnsAt w0 A l) (hb : Below w0.heap.size w0 W) (h78 : B7 ≠ B8) (h73 : B7 ≠ B3) (h97 : B9 ≠ B7) (h0 : w0.heap.size ≤ B7) :
    NextI B8 B9 B3 B7 b N agent d A c l left i' (W.setCell ⟨B7, 0, none⟩ (.int .i64 i')) :=
  ⟨h.m8.far (p := ⟨B7, 0, none⟩) (Ne.symm h78) _, h.m9.far (p := ⟨B7, 0, none⟩) h97 _, h.m3.far (p := ⟨B7, 0, none⟩) (Ne.symm h73) _, h.m7.set_ 0 _, h.map.only (F := fun k => k = B7) (Only.setCell (F := fun k => k = B7) (p := ⟨B7, 0, none⟩) (Only.refl _ _) (.inl rfl) _) (fun e => map_blk_ne h.map h.m7 e), he.below (hb.setCell (p := ⟨B7, 0, none⟩) h0 _)⟩
theorem NextI.grown {B8 B9 B3 B7 b N : Nat} {agent : ByteArray} {d : ByteArray → Option Nat} {A : Option Addr} {c : Nat} {l : List En} {left i : Nat} {w0 W W' : World} {row : Option Nat} (h : NextI B8 B9 B3 B7 b N agent d A c l left i W) (he : EnsAt w0 A l) (hb : Below w0.heap.size w0 W') (hg : W.grownBy W' row) (h8 : row ≠ some B8) (h9 : row ≠ some B9) (h3 : row ≠ some B3) (h7 : row ≠ some B7) (hm : row ≠ some b) : NextI B8 B9 B3 B7 b N agent d A c l left i W' :=
  ⟨h.m8.grown hg (Ne.symm h8), h.m9.grown hg (Ne.symm h9), h.m3.grown hg (Ne.symm h3), h.m7.grown hg (Ne.symm h7), h.map.only (F := fun k => row = some k) ((Only.refl _ _).grown hg (fun k hk => .inl hk)) hm, he.below hb⟩
theorem own_size {w : World} {base e size n : Nat} {v : Value} {xs : List Value} (h : w.ownsRow base e size v n xs) (hn : 0 < n) : base < w.heap.size := by
  rcases h.2 with ⟨_, h0⟩ | ⟨g, cap, cur, rfl, hg, hh, _⟩
  · omega
  · exact Nat.lt_of_le_of_lt hg (Array.getElem?_eq_some_iff.1 hh).1
def idxs (L : List Nat) : List Value := L.map fun (i : Nat) => Value.int .i64 (i : Int)
theorem idxs_snoc (L : List Nat) (i : Nat) : idxs (L ++ [i]) = idxs L ++ [.int .i64 i] := by simp [idxs]
theorem idxs_len (L : List Nat) : (idxs L).length = L.length := by simp [idxs]
/-- What Chain tells. -/
def ChainP (agent : ByteArray) (l : List En) (n : Int) (w : World) (e : Ending) (w' : World) : Prop :=
  ∃ A1 c1, e = .returned (.slice A1 (chainL agent (wayD agent l) l n).length c1) ∧ w'.ownsRow w.heap.size 3 1 (.slice A1 (chainL agent (wayD agent l) l n).length c1) (chainL agent (wayD agent l) l n).length (idxs (chainL agent (wayD agent l) l n)) ∧ Below w.heap.size w w'

set_option maxRecDepth 100000 in
set_option maxHeartbeats 4000000 in
theorem chain_any (A : Option Addr) (c : Nat) (l : List En) (n : Int) (agent : ByteArray) (w : World) (h : EnsAt w A l) (hn : l.length ≤ 100) (ha : agent.size ≤ maxLen) (hsz : ∀ e ∈ l, e.path.size ≤ maxLen ∧ e.parent.size ≤ maxLen) :
    Calls Try.prog 10 #[.slice A l.length c, .int .i64 n, .string agent] w (ChainP agent l n w) := by
  obtain ⟨i0, hi0, hz0, hz1, hz2⟩ := info_parts Try.info3
  have hb2 : Below w.heap.size w ((w.alloc (.cells #[.slice A l.length c] 22)).alloc (.cells #[.int .i64 n] 3)) := ((Below.refl _ _).alloc (Nat.le_refl _) _).alloc (by rw [World.size_alloc]; omega) _
  have B3 : Hid (Blk ((w.alloc (.cells #[.slice A l.length c] 22)).alloc (.cells #[.int .i64 n] 3)) w.heap.size 22 #[.slice A l.length c]) := Lib.hid ((Blk.new w 22 _).alloc _)
  have B4 : Hid (Blk ((w.alloc (.cells #[.slice A l.length c] 22)).alloc (.cells #[.int .i64 n] 3)) (w.heap.size + 1) 3 #[.int .i64 n]) := Lib.hid (by
    have := Blk.new (w.alloc (.cells #[.slice A l.length c] 22)) 3 #[.int .i64 n]
    rw [World.size_alloc] at this
    exact this)
  have C := Lib.hid (index_any _ 20 _ _ l (isN_pred (w.heap.size + 1) n l) A c _ B4.out (by omega) (h.below hb2))
  have E2 := Lib.hid (h.below hb2)
  have HZ := Lib.hid hsz
  have HB2 := Lib.hid hb2
  have HE0 := Lib.hid h
  have HLN : Hid (l.length ≤ 100) := Lib.hid hn
  clear h hsz hb2
  go_enter Try.func10, Try.ntmps10
  go_upto_region 1 with fail
  generalize (w.alloc (.cells #[.slice A l.length c] 22)).alloc (.cells #[.int .i64 n] 3) = W0 at *
  have x3 := B3.out.cell 0
  simp only [List.getElem?_toArray, List.getElem?_cons_zero] at x3
  go_upto_region 2 with (go_at_call 19; (with_reducible refine C.out.mono ?_); rintro e w1 ⟨r, rfl, hr, hb⟩; have HR := Lib.hid hr; have H1 := Lib.hid hb; clear hr hb)
  have B7 : Hid (Blk (w1.alloc (.cells #[.int .i64 r] 3)) w1.heap.size 3 #[.int .i64 r]) := Lib.hid (Blk.new w1 3 _)
  have H2 : Hid (Below W0.heap.size W0 (w1.alloc (.cells #[.int .i64 r] 3))) := Lib.hid (H1.out.alloc H1.out.size _)
  have G7 : Hid (W0.heap.size ≤ w1.heap.size) := Lib.hid H1.out.size
  clear H1 C B4
  generalize w1.heap.size = b7 at *
  generalize w1.alloc (.cells #[.int .i64 r] 3) = W1 at *
  have B3' : Hid (Blk W1 w.heap.size 22 #[.slice A l.length c]) := Lib.hid ((H2.out.block _ B3.out.lt).trans B3.out)
  clear x3
  have x3 := B3'.out.cell 0
  have x7 := B7.out.cell 0
  simp only [List.getElem?_toArray, List.getElem?_cons_zero] at x3 x7
  rcases idx_or HR.out with ⟨rfl, hno⟩ | ⟨hat, rfl⟩
  · have HC : Hid (chainL agent (wayD agent l) l n = []) := Lib.hid (by unfold chainL; rw [if_pos (farN_out hno)])
    clear hno
    go_wp2_with fail
    go_ret
    refine ⟨none, 0, ?_⟩
    rw [HC.out]
    exact ⟨rfl, World.ownsRow_nil _ _ _ _, HB2.out.trans (H2.out.mono HB2.out.size)⟩
  · have CL0 : Hid (chainL agent (wayD agent l) l n = if farN agent (wayD agent l) l (l.findIdx (isN n)) = 0 then [] else chainFrom agent (wayD agent l) l (farN agent (wayD agent l) l (l.findIdx (isN n))) (l.findIdx (isN n))) := Lib.hid rfl
    have CL := Lib.hid CL0.out
    clear HR CL0
    generalize l.findIdx (isN n) = at0 at *
    have k0 : ¬ (at0 : Int) < 0 := by omega
    have k00 : (0 : Int) ≤ (at0 : Int) := by omega
    have k01 : (at0 : Int) < (l.length : Int) := by omega
    have k1 : ¬ (l.length : Int) > 100 := by omega
    have E3 : Hid (EnsAt W1 A l) := Lib.hid (E2.out.below H2.out)
    have FA := Lib.hid (far_any A c l agent W1 E3.out hn ha HZ.out)
    have H3 : Hid (Below w.heap.size w W1) := Lib.hid (HB2.out.trans (H2.out.mono HB2.out.size))
    have G7' : Hid (w.heap.size ≤ b7) := Lib.hid (Nat.le_trans HB2.out.size G7.out)
    clear E2 HB2 H2 G7 B3
    go_upto_region 5 with (go_at_call 21; (with_reducible refine FA.out.mono ?_); rintro en w2 ⟨b, N, d, rfl, b1, m1, d1, h1⟩; obtain rfl : d = wayD agent l := done_eq d1 (wayD_done agent l); have M1 := Lib.hid m1; have H4 := Lib.hid h1; clear m1 d1 h1)
    have B8 : Hid (Blk (w2.alloc (.cells #[.map (some b)] 41)) w2.heap.size 41 #[.map (some b)]) := Lib.hid (Blk.new w2 41 _)
    have H5 : Hid (Below W1.heap.size W1 (w2.alloc (.cells #[.map (some b)] 41))) := Lib.hid (H4.out.alloc H4.out.size _)
    have M2 : Hid (MapR (w2.alloc (.cells #[.map (some b)] 41)) b N agent (wayD agent l)) := Lib.hid (M1.out.below ((Below.refl _ _).alloc (Nat.le_refl _) _))
    have G8 : Hid (w.heap.size ≤ w2.heap.size) := Lib.hid (Nat.le_trans H3.out.size H4.out.size)
    clear H4 M1 FA
    generalize w2.heap.size = b8 at *
    generalize w2.alloc (.cells #[.map (some b)] 41) = W2 at *
    have B3 : Hid (Blk W2 w.heap.size 22 #[.slice A l.length c]) := Lib.hid ((H5.out.block _ B3'.out.lt).trans B3'.out)
    have B7' : Hid (Blk W2 b7 3 #[.int .i64 at0]) := Lib.hid ((H5.out.block _ B7.out.lt).trans B7.out)
    have E4 : Hid (EnsAt W2 A l) := Lib.hid (E3.out.below H5.out)
    have H6 : Hid (Below w.heap.size w W2) := Lib.hid (H3.out.trans (H5.out.mono H3.out.size))
    clear x3 x7 B3' B7 E3 H5 H3
    have x3 := B3.out.cell 0
    have x7 := B7'.out.cell 0
    have x8 := B8.out.cell 0
    simp only [List.getElem?_toArray, List.getElem?_cons_zero] at x3 x7 x8
    obtain ⟨b', o, rfl, hbl, hce⟩ := E4.out.at_ (by omega)
    obtain ⟨z0, z1, z2, z3, z4⟩ := hce at0 hat
    clear hce
    have hbd := bound_step (wayD_done agent l).way hn
    have SC : Hid (∀ W, MapR W b N agent (wayD agent l) → _) := Lib.hid (fun W hW => step_any b N agent (wayD agent l) l[at0] W hW (HZ.out _ (List.getElem_mem hat)).2 (fun p n hp => by have := hbd p n hp; omega))
    have FN := Lib.hid (farN_none (wayD_done agent l) hat)
    have FSn := Lib.hid (farN_some (wayD_done agent l) hat)
    have MEM := Lib.hid (List.getElem_mem hat)
    generalize l[at0] = x at *
    go_cut [9, 10] from 25 to 33 (fun p q wc => ∃ b9, p = .pointer (some ⟨b9, 0, none⟩) ∧ q = .bool (stepR agent (wayD agent l) x).isSome ∧ W2.heap.size ≤ b9 ∧ Blk wc b9 3 #[.int .i64 (((stepR agent (wayD agent l) x).getD 1 : Nat))] ∧ Below W2.heap.size W2 wc)
    case first =>
      clear CL FN FSn HZ B3 E4 H6 B7' G8 B8 G7' HLN
      have SK : Hid (∀ w', Below W2.heap.size W2 w' → w'.cell? ⟨w.heap.size, 0, none⟩ = some (.slice (some ⟨b', o, none⟩) l.length c) ∧ w'.cell? ⟨b7, 0, none⟩ = some (.int .i64 at0) ∧ w'.cell? ⟨b8, 0, none⟩ = some (.map (some b)) ∧ w'.cell? ⟨b', o + at0 * 5, none⟩ = some (.int .i64 x.n) ∧ w'.cell? ⟨b', o + at0 * 5 + 1, none⟩ = some (.string x.path) ∧ w'.cell? ⟨b', o + at0 * 5 + 2, none⟩ = some (.string x.parent) ∧ w'.cell? ⟨b', o + at0 * 5 + 3, none⟩ = some (.int .i64 x.ttl) ∧ w'.cell? ⟨b', o + at0 * 5 + 4, none⟩ = some (.slice x.A x.sel.length x.c)) := Lib.hid fun w' hb => ⟨below_cellOf hb x3, below_cellOf hb x7, below_cellOf hb x8, below_cellOf hb z0, below_cellOf hb z1, below_cellOf hb z2, below_cellOf hb z3, below_cellOf hb z4⟩
      go_region_held3 (fun w' => w'.cell? ⟨w.heap.size, 0, none⟩ = some (.slice (some ⟨b', o, none⟩) l.length c) ∧ w'.cell? ⟨b7, 0, none⟩ = some (.int .i64 at0) ∧ w'.cell? ⟨b8, 0, none⟩ = some (.map (some b)) ∧ w'.cell? ⟨b', o + at0 * 5, none⟩ = some (.int .i64 x.n) ∧ w'.cell? ⟨b', o + at0 * 5 + 1, none⟩ = some (.string x.path) ∧ w'.cell? ⟨b', o + at0 * 5 + 2, none⟩ = some (.string x.parent) ∧ w'.cell? ⟨b', o + at0 * 5 + 3, none⟩ = some (.int .i64 x.ttl) ∧ w'.cell? ⟨b', o + at0 * 5 + 4, none⟩ = some (.slice x.A x.sel.length x.c)) (first | exact SK.out _ (Below.refl _ _).drew | exact SK.out _ ((Below.refl _ _).drew.alloc (Nat.le_refl _) _) | exact SK.out _ (((Below.refl _ _).drew.alloc (Nat.le_refl _) _).alloc (by rw [World.size_alloc]; exact Nat.le_succ _) _)) ((first | (go_at_call 22; (with_reducible refine (SC.out _ ?_).mono ?_); (first | exact M2.out.below (Below.refl _ _).drew | exact M2.out.below ((Below.refl _ _).drew.alloc (Nat.le_refl _) _)); rintro en w3 ⟨rfl, rfl⟩)))
      all_goals (go_wp2_with fail)
      all_goals go_meet
      · exact ⟨W2.heap.size + 1, rfl, rfl, Nat.le_succ _, blk_two _ _ _ _, two_below _ _ _⟩
      · exact ⟨W2.heap.size, rfl, rfl, Nat.le_refl _, (Blk.new _ _ _).alloc _, two_below _ _ _⟩
    case rest =>
      obtain ⟨b9, rfl, rfl, g9, m9, h9⟩ := hcut
      clear x3 x7 x8 z0 z1 z2 z3 z4 hbd SC
      have G9 : Hid (W2.heap.size ≤ b9) := Lib.hid g9
      have B9 := Lib.hid m9
      have B3c : Hid (Blk wc w.heap.size 22 #[.slice (some ⟨b', o, none⟩) l.length c]) := Lib.hid ((h9.block _ B3.out.lt).trans B3.out)
      have B7c : Hid (Blk wc b7 3 #[.int .i64 at0]) := Lib.hid ((h9.block _ B7'.out.lt).trans B7'.out)
      have B8c : Hid (Blk wc b8 41 #[.map (some b)]) := Lib.hid ((h9.block _ B8.out.lt).trans B8.out)
      have L7 : Hid (b7 < W2.heap.size) := Lib.hid B7'.out.lt
      have L8 : Hid (b8 < W2.heap.size) := Lib.hid B8.out.lt
      have M3 : Hid (MapR wc b N agent (wayD agent l)) := Lib.hid (M2.out.below h9)
      have E5 : Hid (EnsAt wc (some ⟨b', o, none⟩) l) := Lib.hid (E4.out.below h9)
      have H7 : Hid (Below w.heap.size w wc) := Lib.hid (H6.out.trans (h9.mono H6.out.size))
      clear h9 m9 g9 B3 B7' B8 M2 E4 H6
      cases hs : stepR agent (wayD agent l) x with
      | none =>
        have HC : Hid (chainL agent (wayD agent l) l n = []) := Lib.hid (by rw [CL.out, if_pos (FN.out.2 hs)])
        clear hs
        go_wp2_with fail
        go_ret
        refine ⟨none, 0, ?_⟩
        rw [HC.out]
        exact ⟨rfl, World.ownsRow_nil _ _ _ _, H7.out⟩
      | some left0 =>
        have hle := (wayD_done agent l).le x left0 hs MEM.out
        have F0 : Hid (farN agent (wayD agent l) l at0 = left0) := Lib.hid ((FSn.out left0 (by omega)).2 hs)
        have C0 : Hid ([] ++ chainFrom agent (wayD agent l) l left0 at0 = chainL agent (wayD agent l) l n) := Lib.hid (by rw [CL.out, if_neg (by rw [F0.out]; omega), F0.out]; rfl)
        have hgd : (some left0).getD 1 = left0 := rfl
        rw [hs, hgd] at B9
        clear hs hgd FN FSn CL MEM
        have x7 := B7c.out.cell 0
        simp only [List.getElem?_toArray, List.getElem?_cons_zero] at x7
        have l3 := B3c.out.lt
        have l7 := B7c.out.lt
        have l8 := B8c.out.lt
        have l9 := B9.out.lt
        have hne97 : b9 ≠ b7 := by have := L7.out; have := G9.out; omega
        have hne98 : b9 ≠ b8 := by have := L8.out; have := G9.out; omega
        have hne78 : b7 ≠ b8 := Blk.ne_ B7c.out B8c.out (by decide)
        have hne37 : w.heap.size ≠ b7 := Blk.ne_ B3c.out B7c.out (by decide)
        have hne39 : w.heap.size ≠ b9 := Blk.ne_ B3c.out B9.out (by decide)
        go_upto_block 0 with fail
        have hbw : Below wc.heap.size wc (wc.alloc (.cells #[.int .i64 at0] 3)) := (Below.refl _ _).alloc (Nat.le_refl _) _
        have R0 : Hid ((wc.alloc (.cells #[.int .i64 at0] 3)).ownsRow wc.heap.size 3 1 (.slice (some ⟨wc.heap.size, 0, none⟩) (([] : List Nat).length + 1) 1) (([] : List Nat).length + 1) (idxs ([] ++ [at0]))) := Lib.hid ⟨rfl, .inr ⟨wc.heap.size, 1, #[.int .i64 at0], rfl, Nat.le_refl _, Blk.new wc 3 _, Nat.le_refl _, by unfold maxLen; omega, rfl, rfl⟩⟩
        have NX0 : Hid (NextI b8 b9 w.heap.size b7 b N agent (wayD agent l) (some ⟨b', o, none⟩) c l left0 at0 (wc.alloc (.cells #[.int .i64 at0] 3))) := Lib.hid (NextI.below ⟨B8c.out, B9.out, B3c.out, B7c.out, M3.out, E5.out⟩ hbw)
        have H8 : Hid (Below w.heap.size w (wc.alloc (.cells #[.int .i64 at0] 3))) := Lib.hid (H7.out.alloc H7.out.size _)
        have g07 : w.heap.size ≤ b7 := G7'.out
        have g09 : w.heap.size ≤ b9 := by have h1 := G9.out; have h2 := L7.out; omega
        clear hbw B8c B9 B3c B7c M3 E5 H7 x7 G8 G7' G9
        generalize wc.alloc (.cells #[.int .i64 at0] 3) = V0 at *
        generalize wc.heap.size = S at *
        have l39 := H8.out.size
        go_wp2_with fail
        go_loopg [11] left0 (fun gg ov wr => ∃ (left i : Nat) (pre : List Nat) (A1 : Option Addr) (c1 : Nat), ov = .slice A1 (pre.length + 1) c1 ∧ left ≤ gg ∧ left ≤ l.length + 1 ∧ 1 ≤ left ∧ pre.length + left ≤ left0 ∧ i < l.length ∧ Hid (farN agent (wayD agent l) l i = left) ∧ Hid (pre ++ chainFrom agent (wayD agent l) l left i = chainL agent (wayD agent l) l n) ∧ Hid (wr.ownsRow S 3 1 (.slice A1 (pre.length + 1) c1) (pre.length + 1) (idxs (pre ++ [i]))) ∧ Hid (NextI b8 b9 w.heap.size b7 b N agent (wayD agent l) (some ⟨b', o, none⟩) c l left i wr) ∧ Hid (Below w.heap.size w wr))
        case atStart => exact ⟨left0, at0, [], _, _, rfl, by omega, by omega, by omega, by simp, hat, F0, C0, R0, NX0, H8⟩
        case round =>
          clear F0 C0 R0 NX0 H8
          obtain ⟨left, i, pre, A1, c1, rfl, hgg, hl1, hl2, hpl, hi, fr, ch, ro, nx, hb⟩ := hrel
          have y9 := nx.out.m9.cell 0
          have y3 := nx.out.m3.cell 0
          have y9f := nx.out.m9.frozen 0
          have y9l := nx.out.m9.lt
          have y3l := nx.out.m3.lt
          simp only [List.getElem?_toArray, List.getElem?_cons_zero] at y9 y3
          by_cases hone : left = 1
          · subst hone
            have HC : Hid (chainL agent (wayD agent l) l n = pre ++ [i]) := Lib.hid ch.out.symm
            go_wp2_with fail
            go_ret
            refine ⟨A1, c1, ?_⟩
            rw [HC.out, List.length_append, List.length_singleton]
            exact ⟨rfl, own_weaken ro.out (by omega), hb.out⟩
          · have hgt : (left : Int) > 1 := by omega
            obtain ⟨k, rfl⟩ : ∃ k, left = k + 1 := ⟨left - 1, by omega⟩
            have ek : ((k + 1 : Nat) : Int) - 1 = (k : Int) := by omega
            have wk : IntKind.i64.wrap (((k + 1 : Nat) : Int) - 1) = (k : Int) := by rw [ek]; exact IntWalk.i64_in _ (by omega)
            have NX1 : Hid (NextI b8 b9 w.heap.size b7 b N agent (wayD agent l) (some ⟨b', o, none⟩) c l k i (wr.setCell ⟨b9, 0, none⟩ (.int .i64 k))) := Lib.hid (nx.out.store9 HE0.out hb.out hne98 (Ne.symm hne39) hne97 g09)
            have RO1 : Hid ((wr.setCell ⟨b9, 0, none⟩ (.int .i64 k)).ownsRow S 3 1 (.slice A1 (pre.length + 1) c1) (pre.length + 1) (idxs (pre ++ [i]))) := Lib.hid (own_only (F := fun k => k = b9) ro.out (Only.setCell (F := fun k => k = b9) (p := ⟨b9, 0, none⟩) (Only.refl _ _) (.inl rfl) _) (fun kk hkk e => by have h1 := (own_lt ro.out hkk).1; have h2 : kk = b9 := e; omega))
            have HB1 : Hid (Below w.heap.size w (wr.setCell ⟨b9, 0, none⟩ (.int .i64 k))) := Lib.hid (hb.out.setCell (p := ⟨b9, 0, none⟩) g09 _)
            have y3' := NX1.out.m3.cell 0
            have y7f := NX1.out.m7.frozen 0
            have y7l := NX1.out.m7.lt
            have y7c := NX1.out.m7.cell 0
            simp only [List.getElem?_toArray, List.getElem?_cons_zero] at y3' y7c
            go_upto_region 11 with fail
            clear y9 y3 y9f y9l y3l nx ro hb wk ek
            generalize wr.setCell ⟨b9, 0, none⟩ (.int .i64 k) = V1 at *
            have hk1 : 1 ≤ k := by omega
            have IX := Lib.hid (index_any _ 23 _ _ l (isNext_pred b8 b9 w.heap.size b7 b N agent (wayD agent l) (some ⟨b', o, none⟩) c l k i hi hn (by omega) (bound_step (wayD_done agent l).way hn) HZ.out) (some ⟨b', o, none⟩) c V1 NX1.out (by omega) NX1.out.ens)
            have st := (farN_some (wayD_done agent l) hi (k + 1) (by omega)).1 fr.out
            have hnl := next_lt (wayD_done agent l) hi hk1 st
            have hni := (next_is hnl).1
            have NF : Hid (farN agent (wayD agent l) l (nextI agent (wayD agent l) l k i) = k) := Lib.hid ((farN_some (wayD_done agent l) hnl k (by omega)).2 hni)
            have CH : Hid ((pre ++ [i]) ++ chainFrom agent (wayD agent l) l k (nextI agent (wayD agent l) l k i) = chainL agent (wayD agent l) l n) := Lib.hid (by rw [← ch.out, chainFrom_more _ _ _ _ _ hk1, List.append_assoc]; rfl)
            have RS : Hid (∀ r, Idx (isNext agent (wayD agent l) k (parI l i)) l r → r = ((nextI agent (wayD agent l) l k i : Nat) : Int)) := Lib.hid fun r h => idx_some h hnl
            clear st hni fr ch
            generalize nextI agent (wayD agent l) l k i = i2 at *
            go_upto_region 12 with (go_at_call 19; (with_reducible refine IX.out.mono ?_); rintro en V2 ⟨r, rfl, hr, hb2⟩; obtain rfl := RS.out r hr; have HB2 := Lib.hid hb2; have NX2 := Lib.hid (NX1.out.below hb2); have y7c := NX2.out.m7.cell 0; have y7f := NX2.out.m7.frozen 0; have y7l := NX2.out.m7.lt; simp only [List.getElem?_toArray, List.getElem?_cons_zero] at y7c; clear hr hb2)
            have HB2' : Hid (Below w.heap.size w V2) := Lib.hid (HB1.out.trans (HB2.out.mono HB1.out.size))
            have RO2 : Hid (V2.ownsRow S 3 1 (.slice A1 (pre.length + 1) c1) (pre.length + 1) (idxs (pre ++ [i]))) := Lib.hid (own_only (F := fun _ => False) RO1.out (Only.of_below HB2.out) (fun _ _ h => h))
            have NX3 : Hid (NextI b8 b9 w.heap.size b7 b N agent (wayD agent l) (some ⟨b', o, none⟩) c l k i2 (V2.setCell ⟨b7, 0, none⟩ (.int .i64 i2))) := Lib.hid (NX2.out.store7 HE0.out HB2'.out hne78 (Ne.symm hne37) hne97 g07)
            have RO3 : Hid ((V2.setCell ⟨b7, 0, none⟩ (.int .i64 i2)).ownsRow S 3 1 (.slice A1 (pre.length + 1) c1) (pre.length + 1) (idxs (pre ++ [i]))) := Lib.hid (own_only (F := fun k => k = b7) RO2.out (Only.setCell (F := fun k => k = b7) (p := ⟨b7, 0, none⟩) (Only.refl _ _) (.inl rfl) _) (fun kk hkk e => by have h1 := (own_lt RO2.out hkk).1; have h2 : kk = b7 := e; omega))
            have HB3 : Hid (Below w.heap.size w (V2.setCell ⟨b7, 0, none⟩ (.int .i64 i2))) := Lib.hid (HB2'.out.setCell (p := ⟨b7, 0, none⟩) g07 _)
            clear NX1 RO1 HB1 NX2 RO2 HB2 HB2' y7c y7f y7l IX RS
            generalize V2.setCell ⟨b7, 0, none⟩ (.int .i64 i2) = V3 at *
            have y7c := NX3.out.m7.cell 0
            simp only [List.getElem?_toArray, List.getElem?_cons_zero] at y7c
            go_wp2_with (at_builtin; refine wpList_append_own _ rfl (.tmp 45) (.tmp 47) 24 rfl S 3 i0 _ 1 8 Try.underlying24 hi0 hz0 hz1 hz2 rfl (by omega) _ (pre.length + 1) (idxs (pre ++ [i])) rfl (RO3.out.alloc _) ⟨V3.heap.size, 0, none⟩ 1 1 [.int .i64 i2] rfl rfl ?c1 ?c2 ?c3 ?c4 ?c5 ?_)
            case c1 => exact World.news_of_block (cs := #[.int .i64 i2]) (t := 3) (fr := (0, 0)) (heap_alloc_new V3 _)
            case c2 => simp [Value.oneCell']
            case c3 => unfold maxLen; omega
            case c4 => omega
            case c5 => rw [World.size_alloc]; have := own_size RO3.out (Nat.succ_pos _); omega
            intro v' V5 hown5 hgrow5 _
            obtain ⟨A5, c5, rfl⟩ := own_shape hown5
            have hro : ∀ kk, (Value.slice A1 (pre.length + 1) c1).ownBlock = some kk → S ≤ kk := fun kk hkk => (own_lt RO3.out hkk).1
            have HB5 : Hid (Below w.heap.size w V5) := Lib.hid ((HB3.out.alloc HB3.out.size _).grown hgrow5 (by rw [World.size_alloc]; have := HB3.out.size; omega) (fun kk hkk => by have := hro kk hkk; omega))
            have NX5 : Hid (NextI b8 b9 w.heap.size b7 b N agent (wayD agent l) (some ⟨b', o, none⟩) c l k i2 V5) := Lib.hid ((NX3.out.below ((Below.refl _ _).alloc (Nat.le_refl _) _)).grown HE0.out HB5.out hgrow5 (fun e => by have := hro _ e; omega) (fun e => by have := hro _ e; omega) (fun e => by have := hro _ e; omega) (fun e => by have := hro _ e; omega) (map_own_ne NX3.out.map RO3.out))
            have el : (pre ++ [i]).length + 1 = pre.length + 1 + 1 := by rw [List.length_append, List.length_singleton]
            have RO5 : Hid (V5.ownsRow S 3 1 (.slice A5 ((pre ++ [i]).length + 1) c5) ((pre ++ [i]).length + 1) (idxs ((pre ++ [i]) ++ [i2]))) := Lib.hid (by rw [el, idxs_snoc]; exact hown5)
            rw [← el]
            clear hown5 hgrow5 el hro
            go_wp2_with fail
            go_roundg k
            case measure => omega
            case rel => exact ⟨k, i2, pre ++ [i], A5, c5, rfl, by omega, by omega, hk1, by rw [List.length_append, List.length_singleton]; omega, hnl, NF, CH, RO5, NX5, HB5⟩
end Go.Proofs.Ytcbfmpnkadkpdaa
