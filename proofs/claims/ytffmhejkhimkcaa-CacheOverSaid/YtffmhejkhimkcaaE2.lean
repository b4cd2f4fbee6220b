/- The document's answer: Put: the walk. -/
import Derived.Test.YtffmhejkhimkcaaE1
import Derived.Deep.RegionHeldLaw
import Derived.Test.YtffmhejkhimkcaaSink
set_option linter.unusedVariables false
set_option linter.unusedSimpArgs false
namespace Go.Proofs.Ytffmhejkhimkcaa
open Go.RowKit

theorem grown_cell {W w1 : World} {row : Option Nat} {g : Nat} {x : Value} (h : W.grownBy w1 row) (hlt : g < W.heap.size) (hne : row ≠ some g) (hc : W.cell? ⟨g, 0, none⟩ = some x) (hf : W.frozen? ⟨g, 0, none⟩ = false) : w1.cell? ⟨g, 0, none⟩ = some x ∧ w1.frozen? ⟨g, 0, none⟩ = false :=
  ⟨(h.cell_far (a := ⟨g, 0, none⟩) hlt (Ne.symm hne)).trans hc, (h.frozen_far (a := ⟨g, 0, none⟩) hlt (Ne.symm hne)).trans hf⟩
theorem St.push2 {w0 W2 W4 w1 : World} {base g gg cap H : Nat} {v0 v : Value} {l0 l1 : List Kt} {k' : Kt} {u : Int} {row : Option Nat} (h : St w0 36 base g v0 v l0 u W2) (hb : Below W2.heap.size W2 W4)
    (hown1 : w1.ownsRow base 27 7 (.slice (some ⟨gg, 0, none⟩) (l1.length + 1) cap) (l1.length + 1) (kts l1 ++ k'.cells)) (hgrow : W4.grownBy w1 row) (hrow : ∀ k, row = some k → W2.heap.size ≤ k)
    (hat : row = some gg ∨ gg = H) (hH : W2.heap.size ≤ H) : St w0 36 base g v0 (.slice (some ⟨gg, 0, none⟩) (l1.length + 1) cap) (l1 ++ [k']) u (w1.setCell ⟨g, 0, none⟩ (.slice (some ⟨gg, 0, none⟩) (l1.length + 1) cap)) := by
  refine h.store (by decide) ?_ (Only.grown (Only.of_below hb) hgrow (fun k hk => .inr (hrow k hk))) (fun k hk => ?_)
  · rw [List.length_append, List.length_singleton, kts_append, kts_one]
    exact hown1
  · have : gg = k := by simpa [Value.ownBlock] using hk
    subst this
    rcases hat with e | e
    · exact .inr (hrow _ e)
    · exact .inr (by omega)

theorem kat0 {w' : World} {b : Nat} {x : Kt} (h : KAt w' b 0 x) : w'.cell? ⟨b, 0, none⟩ = some (.int .i64 x.entry) ∧ w'.cell? ⟨b, 1, none⟩ = some (.string x.aud) ∧ w'.cell? ⟨b, 2, none⟩ = some (.string x.token) ∧ w'.cell? ⟨b, 3, none⟩ = some (.int .i64 x.iat) ∧ w'.cell? ⟨b, 4, none⟩ = some (.int .i64 x.exp) ∧ w'.cell? ⟨b, 5, none⟩ = some (.int .i64 x.used) ∧ w'.cell? ⟨b, 6, none⟩ = some (.string x.needs) := by
  obtain ⟨z0, z1, z2, z3, z4, z5, z6⟩ := h
  simp only [Nat.zero_add] at z1 z2 z3 z4 z5 z6
  exact ⟨z0, z1, z2, z3, z4, z5, z6⟩
theorem al_le (w : World) (o : Obj) : w.heap.size ≤ (w.alloc o).heap.size := by rw [World.size_alloc]; omega
theorem below_al {w0 w : World} (h : Below w0.heap.size w0 w) (o : Obj) : Below w0.heap.size w0 (w.alloc o) := h.alloc h.size o
theorem frozen_below {w0 w : World} {g i : Nat} (h : Below w0.heap.size w0 w) (hg : g < w0.heap.size) : w.frozen? ⟨g, i, none⟩ = w0.frozen? ⟨g, i, none⟩ := by
  unfold World.frozen?
  rw [h.block g hg]
/-- The box's cells. -/
theorem box_below {W w' : World} {b : Nat} {x : Kt} (h : KAt W b 0 x) (hlt : b < W.heap.size) (hb : Below W.heap.size W w') : KAt w' b 0 x := h.below hb hlt
theorem box_grown {W w' : World} {b : Nat} {x : Kt} {row : Option Nat} (h : KAt W b 0 x) (hlt : b < W.heap.size) (hg : W.grownBy w' row) (hne : row ≠ some b) : KAt w' b 0 x :=
  h.keep fun j _ => hg.cell_far (a := ⟨b, 0 + j, none⟩) hlt (Ne.symm hne)

set_option maxRecDepth 100000 in
set_option maxHeartbeats 40000000 in
theorem refPut_any (base g : Nat) (v : Value) (l : List Kt) (u : Int) (k : Kt) (w : World) (h : CacheAt w 36 base g v l u) (hu : 0 ≤ u ∧ u ≤ 1000) (hl : l.length ≤ 900) (hb : base ≤ w.heap.size) :
    Calls Try.prog 14 #[.pointer (some ⟨g, 0, none⟩), k.agg] w fun e w' => e = .returned (.tuple #[]) ∧ ∃ v', St w 36 base g v v' (putL l u k) (u + 1) w' := by
  obtain ⟨i0, hi0, hz0, hz1, hz2⟩ := info_parts Try.info27
  have hlt := h.blk.lt
  have hc1 := h.blk.cell 1
  simp only [List.getElem?_toArray, List.getElem?_cons_zero, List.getElem?_cons_succ] at hc1
  have hf1 := h.blk.frozen 1
  have wu : IntKind.i64.wrap (u + 1) = u + 1 := IntWalk.i64_in _ (by omega)
  have hne : v.ownBlock ≠ some w.heap.size := fun hk => Nat.lt_irrefl _ (own_lt h.own hk).2
  have S2 : Hid (St w 36 base g v v l (u + 1) ((w.setCell ⟨g, 1, none⟩ (.int .i64 (u + 1))).alloc (.cells #[.int .i64 k.entry, .string k.aud, .string k.token, .int .i64 k.iat, .int .i64 k.exp, .int .i64 (u + 1), .string k.needs] 27))) := Lib.hid (((St.refl h).use (by decide) (u + 1)).below ((Below.refl _ _).alloc (Nat.le_refl _) _))
  have X2 : Hid (Blk ((w.setCell ⟨g, 1, none⟩ (.int .i64 (u + 1))).alloc (.cells #[.int .i64 k.entry, .string k.aud, .string k.token, .int .i64 k.iat, .int .i64 k.exp, .int .i64 (u + 1), .string k.needs] 27)) w.heap.size 27 ({ k with used := u + 1 } : Kt).cells.toArray) := Lib.hid (by
    have := Blk.new (w.setCell ⟨g, 1, none⟩ (.int .i64 (u + 1))) 27 ({ k with used := u + 1 } : Kt).cells.toArray
    rw [show (w.setCell ⟨g, 1, none⟩ (.int .i64 (u + 1))).heap.size = w.heap.size by simp [World.setCell]] at this
    exact this)
  clear h hne
  go_enter Try.func14, Try.ntmps14
  go_upto_region 3 with fail
  generalize (w.setCell ⟨g, 1, none⟩ (.int .i64 (u + 1))).alloc (.cells #[.int .i64 k.entry, .string k.aud, .string k.token, .int .i64 k.iat, .int .i64 k.exp, .int .i64 (u + 1), .string k.needs] 27) = W2 at *
  clear hc1 hf1 wu
  obtain ⟨A, c, rfl⟩ := own_shape S2.out.at_.own
  have X2K : Hid (KAt W2 w.heap.size 0 { k with used := u + 1 }) := Lib.hid (kat_of fun j u hu => by rw [X2.out.cell, Nat.zero_add]; simpa using hu)
  obtain ⟨z0, z1, z2, z3, z4, z5, z6⟩ := X2K.out
  simp only [Nat.zero_add] at z1 z2 z3 z4 z5 z6
  have hbx := X2.out.lt
  have hg := S2.out.at_.blk.cell 0
  simp only [List.getElem?_toArray, List.getElem?_cons_zero] at hg
  have hgf := S2.out.at_.blk.frozen 0
  have hglt := S2.out.at_.blk.lt
  have hbase : base ≤ W2.heap.size := Nat.le_trans S2.out.at_.hbase (Nat.le_of_lt hglt)
  have WB := Lib.hid (without_any base _ l k.entry k.aud W2.drew S2.out.at_.own (by omega))
  have WA := Lib.hid (without_any base _ l k.entry k.aud (W2.alloc (.cells #[.int .i64 k.entry, .string k.aud, .string k.token, .int .i64 k.iat, .int .i64 k.exp, .int .i64 (u + 1), .string k.needs] 27)).drew (own_only (F := fun _ => False) S2.out.at_.own (Only.of_below (one_below W2 _)) (fun _ _ h => h)) (by omega))
  have L1 : Hid ((keptOf (isM k.entry k.aud) l).length ≤ 900) := Lib.hid (Nat.le_trans (kept_le _ _) hl)
  have PU : Hid (putL l u k = if (keptOf (isM k.entry k.aud) l ++ [{ k with used := u + 1 }]).length ≤ 6 then keptOf (isM k.entry k.aud) l ++ [{ k with used := u + 1 }] else keptOf (isM (minK (keptOf (isM k.entry k.aud) l ++ [{ k with used := u + 1 }])).entry (minK (keptOf (isM k.entry k.aud) l ++ [{ k with used := u + 1 }])).aud) (keptOf (isM k.entry k.aud) l ++ [{ k with used := u + 1 }])) := Lib.hid rfl
  generalize keptOf (isM k.entry k.aud) l = l1 at *
  have lk := L1.out
  go_cut [] from 6 (fun wx => ∃ v2, St w 36 base g (.slice A l.length c) v2 (l1 ++ [{ k with used := u + 1 }]) (u + 1) wx)
  case first =>
    have P7 : 0 < 7 := by decide
    have ONE : ∀ u' ∈ ([.int .i64 k.entry, .string k.aud, .string k.token, .int .i64 k.iat, .int .i64 k.exp, .int .i64 (u + 1), .string k.needs] : List Value), u'.oneCell' = true := by simp [Value.oneCell']
    have M63 : l1.length + 1 ≤ maxLen := by unfold maxLen; omega
    have MB : (l1.length + 1) * 80 ≤ 140737488355328 := by omega
    have NB : Hid (∀ (w4 : World) (j : Nat) (u' : Value), ([.int .i64 k.entry, .string k.aud, .string k.token, .int .i64 k.iat, .int .i64 k.exp, .int .i64 (u + 1), .string k.needs] : List Value)[j]? = some u' → (w4.alloc (.cells #[.int .i64 k.entry, .string k.aud, .string k.token, .int .i64 k.iat, .int .i64 k.exp, .int .i64 (u + 1), .string k.needs] 27)).cell? ((⟨w4.heap.size, 0, none⟩ : Addr).add j) = some u') := Lib.hid fun w4 => World.news_of_block (cs := #[.int .i64 k.entry, .string k.aud, .string k.token, .int .i64 k.iat, .int .i64 k.exp, .int .i64 (u + 1), .string k.needs]) (t := 27) (fr := (0, 0)) (heap_alloc_new w4 _)
    have NA : Hid (∀ (w4 : World), Below (W2.alloc (.cells #[.int .i64 k.entry, .string k.aud, .string k.token, .int .i64 k.iat, .int .i64 k.exp, .int .i64 (u + 1), .string k.needs] 27)).drew.heap.size (W2.alloc (.cells #[.int .i64 k.entry, .string k.aud, .string k.token, .int .i64 k.iat, .int .i64 k.exp, .int .i64 (u + 1), .string k.needs] 27)).drew w4 → ∀ (j : Nat) (u' : Value), ([.int .i64 k.entry, .string k.aud, .string k.token, .int .i64 k.iat, .int .i64 k.exp, .int .i64 (u + 1), .string k.needs] : List Value)[j]? = some u' → w4.cell? ((⟨W2.heap.size, 0, none⟩ : Addr).add j) = some u') := Lib.hid fun w4 hb => World.news_of_block (cs := #[.int .i64 k.entry, .string k.aud, .string k.token, .int .i64 k.iat, .int .i64 k.exp, .int .i64 (u + 1), .string k.needs]) (t := 27) (fr := (0, 0)) ((hb.block _ (by rw [size1]; omega)).trans (heap1 W2 _))
    have hgw : g ≠ w.heap.size := by omega
    have hwg : w.heap.size ≠ g := by omega
    refine wp_region_sink (by kernel_rfl) 15 _ rfl rfl rfl rfl (by kernel_rfl) (by kernel_rfl) ?_
    refine wpAny_of_held (S := fun w' => w'.cell? ⟨g, 0, none⟩ = some (.slice A l.length c) ∧ w'.cell? ⟨w.heap.size, 0, none⟩ = some (.int .i64 k.entry) ∧ w'.cell? ⟨w.heap.size, 1, none⟩ = some (.string k.aud) ∧ w'.cell? ⟨w.heap.size, 2, none⟩ = some (.string k.token) ∧ w'.cell? ⟨w.heap.size, 3, none⟩ = some (.int .i64 k.iat) ∧ w'.cell? ⟨w.heap.size, 4, none⟩ = some (.int .i64 k.exp) ∧ w'.cell? ⟨w.heap.size, 5, none⟩ = some (.int .i64 (u + 1)) ∧ w'.cell? ⟨w.heap.size, 6, none⟩ = some (.string k.needs)) _ _ _ _ ?_
    simp only [List.setIfInBounds_toArray, List.set_cons_zero, List.set_cons_succ, idle]
    have hS0 : W2.drew.cell? ⟨g, 0, none⟩ = some (.slice A l.length c) ∧ W2.drew.cell? ⟨w.heap.size, 0, none⟩ = some (.int .i64 k.entry) ∧ W2.drew.cell? ⟨w.heap.size, 1, none⟩ = some (.string k.aud) ∧ W2.drew.cell? ⟨w.heap.size, 2, none⟩ = some (.string k.token) ∧ W2.drew.cell? ⟨w.heap.size, 3, none⟩ = some (.int .i64 k.iat) ∧ W2.drew.cell? ⟨w.heap.size, 4, none⟩ = some (.int .i64 k.exp) ∧ W2.drew.cell? ⟨w.heap.size, 5, none⟩ = some (.int .i64 (u + 1)) ∧ W2.drew.cell? ⟨w.heap.size, 6, none⟩ = some (.string k.needs) := ⟨hg, z0, z1, z2, z3, z4, z5, z6⟩
    change wpAnyH _ _ _ _ _ _ _ _ W2.drew
    refine wpAnyH_take (i := 0) (v := ?_) rfl (by kernel_rfl) (by kernel_rfl) (by kernel_rfl) (fun _ _ _ h => h) (Or.inl ⟨by rfl, ?_⟩) hS0 ?_
    rotate_left
    · intro wv hSw
      (try dsimp only at hSw)
      go_simp
      first | done | with_reducible rfl
    simp only [Act.put, List.setIfInBounds_toArray, List.set_cons_zero, List.set_cons_succ]
    refine wpAnyH_take (i := 1) (v := ?_) rfl (by kernel_rfl) (by kernel_rfl) (by kernel_rfl) (fun _ _ _ h => h) (Or.inl ⟨by rfl, ?_⟩) hS0 ?_
    rotate_left
    · intro wv hSw
      (try dsimp only at hSw)
      go_simp
      first | done | with_reducible rfl
    simp only [Act.put, List.setIfInBounds_toArray, List.set_cons_zero, List.set_cons_succ]
    refine wpAnyH_take (i := 2) (v := ?_) rfl (by kernel_rfl) (by kernel_rfl) (by kernel_rfl) (fun _ _ _ h => h) (Or.inl ⟨by rfl, ?_⟩) hS0 ?_
    rotate_left
    · intro wv hSw
      (try dsimp only at hSw)
      go_simp
      first | done | with_reducible rfl
    simp only [Act.put, List.setIfInBounds_toArray, List.set_cons_zero, List.set_cons_succ]
    refine wpAnyH_take (i := 3) (v := ?_) rfl (by kernel_rfl) (by kernel_rfl) (by kernel_rfl) (fun _ _ _ h => h) (Or.inl ⟨by rfl, ?_⟩) hS0 ?_
    rotate_left
    · intro wv hSw
      (try dsimp only at hSw)
      go_simp
      first | done | with_reducible rfl
    simp only [Act.put, List.setIfInBounds_toArray, List.set_cons_zero, List.set_cons_succ]
    refine wpAnyH_take (i := 4) (v := ?_) rfl (by kernel_rfl) (by kernel_rfl) (by kernel_rfl) (fun _ _ _ h => h) (Or.inl ⟨by rfl, ?_⟩) hS0 ?_
    rotate_left
    · intro wv hSw
      (try dsimp only at hSw)
      go_simp
      first | done | with_reducible rfl
    simp only [Act.put, List.setIfInBounds_toArray, List.set_cons_zero, List.set_cons_succ]
    refine wpAnyH_take (i := 5) (v := ?_) rfl (by kernel_rfl) (by kernel_rfl) (by kernel_rfl) (fun _ _ _ h => h) (Or.inl ⟨by rfl, ?_⟩) hS0 ?_
    rotate_left
    · intro wv hSw
      (try dsimp only at hSw)
      go_simp
      first | done | with_reducible rfl
    simp only [Act.put, List.setIfInBounds_toArray, List.set_cons_zero, List.set_cons_succ]
    refine wpAnyH_take (i := 6) (v := ?_) rfl (by kernel_rfl) (by kernel_rfl) (by kernel_rfl) (fun _ _ _ h => h) (Or.inl ⟨by rfl, ?_⟩) hS0 ?_
    rotate_left
    · intro wv hSw
      (try dsimp only at hSw)
      go_simp
      first | done | with_reducible rfl
    simp only [Act.put, List.setIfInBounds_toArray, List.set_cons_zero, List.set_cons_succ]
    refine wpAnyH_take (i := 7) (v := ?_) rfl (by kernel_rfl) (by kernel_rfl) (by kernel_rfl) (fun _ _ _ h => h) (Or.inl ⟨by rfl, ?_⟩) hS0 ?_
    rotate_left
    · intro wv hSw
      (try dsimp only at hSw)
      go_simp
      first | done | with_reducible rfl
    simp only [Act.put, List.setIfInBounds_toArray, List.set_cons_zero, List.set_cons_succ]
    refine wpAnyH_take (i := 8) (v := ?_) rfl (by kernel_rfl) (by kernel_rfl) (by kernel_rfl) (fun _ _ _ h => h) (Or.inl ⟨by rfl, ?_⟩) hS0 ?_
    rotate_left
    · intro wv hSw
      (try dsimp only at hSw)
      go_simp
      first | done | with_reducible rfl
    simp only [Act.put, List.setIfInBounds_toArray, List.set_cons_zero, List.set_cons_succ]
    refine wpAnyH_take (i := 10) (v := ?_) rfl (by kernel_rfl) (by kernel_rfl) (by kernel_rfl) (fun _ _ _ h => h) (Or.inl ⟨by rfl, ?_⟩) hS0 ?_
    rotate_left
    · intro wv hSw
      (try dsimp only at hSw)
      go_simp
      first | done | with_reducible rfl
    simp only [Act.put, List.setIfInBounds_toArray, List.set_cons_zero, List.set_cons_succ]
    refine wpAnyH_ready (rs := [9, 11]) (by kernel_rfl) (by simp) ?_
    refine AllReadyH.cons rfl (fun K hK => ?_) ?_
    · go_simp
      go_wp2_with (go_at_call 29; (with_reducible refine WB.out.mono ?_); rintro e w4 ⟨v1, rfl, s1, s2⟩; obtain ⟨A1, c1, rfl⟩ := own_shape s1; have T1b := Lib.hid s1; have T2 := Lib.hid ((Below.refl _ W2).drew.trans s2); have BX := Lib.hid (box_below X2K.out hbx T2.out); have SK := Lib.hid (kat0 BX.out); clear s1 s2)
      refine hK.out _ _ ?_ (fun hH1 => ?_)
      · (try dsimp only)
        exact ⟨(T2.out.cell (p := ⟨g, 0, none⟩) hglt).trans hg, SK.out⟩
      clear hK K
      refine wpAnyH_ready (rs := [11]) (by kernel_rfl) (by simp) ?_
      refine AllReadyH.cons rfl (fun K hK => ?_) AllReadyH.nil
      go_simp
      refine hK.out _ _ ?_ (fun hH2 => ?_)
      · (try dsimp only)
        exact ⟨((below_al T2.out _).cell (p := ⟨g, 0, none⟩) hglt).trans hg, kat0 (box_below X2K.out hbx (below_al T2.out _))⟩
      clear hK K
      refine wpAnyH_ready (rs := [12]) (by kernel_rfl) (by simp) ?_
      refine AllReadyH.cons rfl (fun K hK => ?_) AllReadyH.nil
      refine step_append_lies _ rfl (.tmp 27) (.tmp 29) 22 rfl base 27 i0 _ 7 80 Try.underlying22 hi0 hz0 hz1 hz2 rfl P7 (.slice A1 l1.length c1) l1.length (kts l1) (by simp [Act.eval]) ((own_weaken T1b.out hbase).alloc _) ⟨w4.heap.size, 0, none⟩ 1 1 [.int .i64 k.entry, .string k.aud, .string k.token, .int .i64 k.iat, .int .i64 k.exp, .int .i64 (u + 1), .string k.needs] (by simp [Act.eval]) rfl (NB.out w4) ONE Nat.zero_lt_one M63 MB (Nat.le_trans (Nat.le_trans hbase T2.out.size) (al_le w4 _)) _ rfl ?_
      intro gg cap w1 hown1 hgrow hat hlt1
      have CC := grown_cell hgrow (Nat.lt_of_lt_of_le (Nat.lt_of_lt_of_le hglt T2.out.size) (al_le w4 _)) (fun hk => Nat.not_le.2 hglt (own_lt T1b.out hk).1) (((below_al T2.out _).cell (p := ⟨g, 0, none⟩) hglt).trans hg) ((frozen_below (below_al T2.out _) hglt).trans hgf)
      have d1 := CC.1
      have d2 := CC.2
      have SK := Lib.hid (kat0 (box_grown (box_below X2K.out hbx (below_al T2.out _)) (Nat.lt_of_lt_of_le (Nat.lt_of_lt_of_le hbx T2.out.size) (al_le w4 _)) hgrow (fun hk => Nat.not_le.2 hbx (own_lt T1b.out hk).1)))
      have FIN := Lib.hid (S2.out.push2 (k' := { k with used := u + 1 }) (below_al T2.out _) hown1 hgrow (fun k hk => (own_lt T1b.out hk).1) hat (Nat.le_trans T2.out.size (al_le w4 _)))
      clear hown1 hgrow hat hlt1 CC
      refine hK.out _ _ ?_ (fun hH3 => ?_)
      · (try dsimp only)
        exact ⟨d1, SK.out⟩
      clear hK K
      refine wpAnyH_take (i := 13) (v := ?_) rfl (by kernel_rfl) (by kernel_rfl) (by kernel_rfl) (fun _ _ _ h => h) (Or.inl ⟨by rfl, ?_⟩) hH3 ?_
      rotate_left
      · intro wv hSw
        (try dsimp only at hSw)
        go_simp
        first | done | with_reducible rfl
      simp only [Act.put, List.setIfInBounds_toArray, List.set_cons_zero, List.set_cons_succ]
      refine wpAnyH_take (i := 14) (v := ?_) rfl (by kernel_rfl) (by kernel_rfl) (by kernel_rfl) (fun _ _ _ h => h) (Or.inl ⟨by rfl, ?_⟩) hH3 ?_
      rotate_left
      · intro wv hSw
        (try dsimp only at hSw)
        go_simp
        first | done | with_reducible rfl
      simp only [Act.put, List.setIfInBounds_toArray, List.set_cons_zero, List.set_cons_succ]
      refine wpAnyH_take (i := 15) (v := ?_) rfl (by kernel_rfl) (by kernel_rfl) (by kernel_rfl) (fun _ _ _ h => h) (Or.inl ⟨by rfl, ?_⟩) hH3 ?_
      rotate_left
      · intro wv hSw
        (try dsimp only at hSw)
        go_simp
        first | done | with_reducible rfl
      simp only [Act.put, List.setIfInBounds_toArray, List.set_cons_zero, List.set_cons_succ]
      refine wpAnyH_done (by kernel_rfl) ?_ _
      refine behind_normal ?_
      refine wpOp_step rfl (fun K hK => ?_)
      go_simp
      refine hK _ _ ?_
      go_wp2_with fail
      go_meet
      exact ⟨_, FIN.out⟩
    refine AllReadyH.cons rfl (fun K hK => ?_) AllReadyH.nil
    go_simp
    refine hK.out _ _ ?_ (fun hH1 => ?_)
    · (try dsimp only)
      exact ⟨((one_below W2 _).cell (p := ⟨g, 0, none⟩) hglt).trans hg, kat0 (box_below X2K.out hbx (one_below W2 _))⟩
    clear hK K
    refine wpAnyH_ready (rs := [9]) (by kernel_rfl) (by simp) ?_
    refine AllReadyH.cons rfl (fun K hK => ?_) AllReadyH.nil
    go_simp
    go_wp2_with (go_at_call 29; (with_reducible refine WA.out.mono ?_); rintro e w4 ⟨v1, rfl, s1, s2⟩; obtain ⟨A1, c1, rfl⟩ := own_shape s1; have T1a := Lib.hid s1; have T2 := Lib.hid ((one_below W2 _).trans (s2.mono (one_below W2 _).size)); have BX := Lib.hid (box_below X2K.out hbx T2.out); have SK := Lib.hid (kat0 BX.out); have TA2 := Lib.hid s2; clear s1 s2)
    refine hK.out _ _ ?_ (fun hH2 => ?_)
    · (try dsimp only)
      exact ⟨(T2.out.cell (p := ⟨g, 0, none⟩) hglt).trans hg, SK.out⟩
    clear hK K
    refine wpAnyH_ready (rs := [12]) (by kernel_rfl) (by simp) ?_
    refine AllReadyH.cons rfl (fun K hK => ?_) AllReadyH.nil
    refine step_append_lies _ rfl (.tmp 27) (.tmp 29) 22 rfl base 27 i0 _ 7 80 Try.underlying22 hi0 hz0 hz1 hz2 rfl P7 (.slice A1 l1.length c1) l1.length (kts l1) (by simp [Act.eval]) (own_weaken T1a.out (Nat.le_trans hbase (one_below W2 _).size)) ⟨W2.heap.size, 0, none⟩ 1 1 [.int .i64 k.entry, .string k.aud, .string k.token, .int .i64 k.iat, .int .i64 k.exp, .int .i64 (u + 1), .string k.needs] (by simp [Act.eval]) rfl (NA.out w4 TA2.out) ONE Nat.zero_lt_one M63 MB (Nat.le_trans hbase T2.out.size) _ rfl ?_
    intro gg cap w1 hown1 hgrow hat hlt1
    have CC := grown_cell hgrow (Nat.lt_of_lt_of_le hglt T2.out.size) (fun hk => Nat.not_le.2 hglt (Nat.le_trans (one_below W2 _).size (own_lt T1a.out hk).1)) ((T2.out.cell (p := ⟨g, 0, none⟩) hglt).trans hg) ((frozen_below T2.out hglt).trans hgf)
    have d1 := CC.1
    have d2 := CC.2
    have SK := Lib.hid (kat0 (box_grown BX.out (Nat.lt_of_lt_of_le hbx T2.out.size) hgrow (fun hk => Nat.not_le.2 hbx (Nat.le_trans (one_below W2 _).size (own_lt T1a.out hk).1))))
    have FIN := Lib.hid (S2.out.push2 (k' := { k with used := u + 1 }) T2.out hown1 hgrow (fun k hk => Nat.le_trans (one_below W2 _).size (own_lt T1a.out hk).1) hat T2.out.size)
    clear hown1 hgrow hat hlt1 CC
    refine hK.out _ _ ?_ (fun hH3 => ?_)
    · (try dsimp only)
      exact ⟨d1, SK.out⟩
    clear hK K
    refine wpAnyH_take (i := 13) (v := ?_) rfl (by kernel_rfl) (by kernel_rfl) (by kernel_rfl) (fun _ _ _ h => h) (Or.inl ⟨by rfl, ?_⟩) hH3 ?_
    rotate_left
    · intro wv hSw
      (try dsimp only at hSw)
      go_simp
      first | done | with_reducible rfl
    simp only [Act.put, List.setIfInBounds_toArray, List.set_cons_zero, List.set_cons_succ]
    refine wpAnyH_take (i := 14) (v := ?_) rfl (by kernel_rfl) (by kernel_rfl) (by kernel_rfl) (fun _ _ _ h => h) (Or.inl ⟨by rfl, ?_⟩) hH3 ?_
    rotate_left
    · intro wv hSw
      (try dsimp only at hSw)
      go_simp
      first | done | with_reducible rfl
    simp only [Act.put, List.setIfInBounds_toArray, List.set_cons_zero, List.set_cons_succ]
    refine wpAnyH_take (i := 15) (v := ?_) rfl (by kernel_rfl) (by kernel_rfl) (by kernel_rfl) (fun _ _ _ h => h) (Or.inl ⟨by rfl, ?_⟩) hH3 ?_
    rotate_left
    · intro wv hSw
      (try dsimp only at hSw)
      go_simp
      first | done | with_reducible rfl
    simp only [Act.put, List.setIfInBounds_toArray, List.set_cons_zero, List.set_cons_succ]
    refine wpAnyH_done (by kernel_rfl) ?_ _
    refine behind_normal ?_
    refine wpOp_step rfl (fun K hK => ?_)
    go_simp
    refine hK _ _ ?_
    go_wp2_with fail
    go_meet
    exact ⟨_, FIN.out⟩
  case rest =>
    obtain ⟨v2, hs⟩ := hcut
    clear WB WA z0 z1 z2 z3 z4 z5 z6 hg hgf X2K X2 hbx
    have L2 : Hid ((l1 ++ [{ k with used := u + 1 }]).length ≤ 1000) := Lib.hid (by rw [List.length_append, List.length_singleton]; omega)
    generalize l1 ++ [{ k with used := u + 1 }] = l2 at *
    have l2len := L2.out
    obtain ⟨A2, c2, rfl⟩ := own_shape hs.at_.own
    have hg := hs.at_.blk.cell 0
    simp only [List.getElem?_toArray, List.getElem?_cons_zero] at hg
    have hgf := hs.at_.blk.frozen 0
    have hglt2 := hs.at_.blk.lt
    have S3 := Lib.hid hs
    by_cases hle : l2.length ≤ 6
    · have hlei : ¬ 6 < (l2.length : Int) := by omega
      have HE : Hid (putL l u k = l2) := Lib.hid (by rw [PU.out, if_pos hle])
      clear hs PU hle
      go_wp2_with fail
      go_end0
      exact ⟨rfl, _, by rw [HE.out]; exact S3.out⟩
    · have hlei : 6 < (l2.length : Int) := by omega
      have HE : Hid (putL l u k = keptOf (isM (minK l2).entry (minK l2).aud) l2) := Lib.hid (by rw [PU.out, if_neg hle])
      have hp0 : 0 < l2.length := by omega
      obtain ⟨gg, rfl, hgg, hcells⟩ := row_cells hs.at_.own hp0
      have CC := Lib.hid hcells
      have HB0 : Hid (best (l2.drop 0) l2[0] = minK l2) := Lib.hid (by
        rw [best_drop l2 0 hp0, if_neg (by omega), minK_drop l2 hp0])
      clear hs PU hle hcells
      go_wp2_with fail
      go_loopw [4, 5] (fun ov q wr => ∃ (i o t : Nat) (ho : o < l2.length), i ≤ l2.length ∧ q = .int .i64 i ∧ ov = .int .i64 o ∧ Hid (best (l2.drop i) l2[o] = minK l2) ∧ wr = wc.drewN t) (fun _ q _ => l2.length - (intOf q).toNat)
      case atStart => exact ⟨0, 0, 0, hp0, by omega, rfl, rfl, HB0, rfl⟩
      case round =>
        obtain ⟨i, o, t, ho, hi, rfl, rfl, hbst, rfl⟩ := hrel
        by_cases hlt3 : i < l2.length
        · have i0 : (0 : Int) ≤ (i : Int) := by omega
          have i1 : (i : Int) < (l2.length : Int) := by omega
          have o0 : (0 : Int) ≤ (o : Int) := by omega
          have o1 : (o : Int) < (l2.length : Int) := by omega
          have x5 := (CC.out i hlt3).2.2.2.2.2.1
          have y5 := (CC.out o ho).2.2.2.2.2.1
          have BD := Lib.hid (best_drop l2 i hlt3 l2[o])
          by_cases hless : l2[i].used < l2[o].used
          · have HN : Hid (best (l2.drop (i + 1)) l2[i] = minK l2) := Lib.hid (by rw [← hbst.out, BD.out, if_pos hless])
            clear BD hbst
            generalize l2[i].used = a1 at *
            generalize l2[o].used = a2 at *
            go_upto_region 9 with fail
            go_quiet (fail)
            go_wp2_with fail
            go_roundw
            case rel => exact ⟨i + 1, i, _, hlt3, by omega, by go_num, by go_num, HN, rfl⟩
            case measure => simp [intOf]; omega
          · have HN : Hid (best (l2.drop (i + 1)) l2[o] = minK l2) := Lib.hid (by rw [← hbst.out, BD.out, if_neg hless])
            clear BD hbst
            generalize l2[i].used = a1 at *
            generalize hh : l2[o].used = a2 at *
            clear hh
            go_upto_region 9 with fail
            go_quiet (fail)
            go_wp2_with fail
            go_roundw
            case rel => exact ⟨i + 1, o, _, ho, by omega, by go_num, by go_num, HN, rfl⟩
            case measure => simp [intOf]; omega
        · have i1 : ¬ (i : Int) < (l2.length : Int) := by omega
          have o0 : (0 : Int) ≤ (o : Int) := by omega
          have o1 : (o : Int) < (l2.length : Int) := by omega
          have HM : Hid (l2[o] = minK l2) := Lib.hid (by rw [← hbst.out, List.drop_eq_nil_of_le (by omega)]; rfl)
          obtain ⟨x0, x1, _⟩ := CC.out o ho
          have HE2 : Hid (putL l u k = keptOf (isM l2[o].entry l2[o].aud) l2) := Lib.hid (by rw [HE.out, HM.out])
          have SX : Hid (St w 36 base g (.slice A l.length c) (.slice (some ⟨gg, 0, none⟩) l2.length c2) l2 (u + 1) (wc.drewN t)) := Lib.hid (S3.out.below (below_drewN (Below.refl _ _) t))
          have x0' : (wc.drewN t).cell? ⟨gg, o * 7, none⟩ = some (.int .i64 l2[o].entry) := x0
          have x1' : (wc.drewN t).cell? ⟨gg, o * 7 + 1, none⟩ = some (.string l2[o].aud) := x1
          have hg' : (wc.drewN t).cell? ⟨g, 0, none⟩ = some (.slice (some ⟨gg, 0, none⟩) l2.length c2) := hg
          have hgf' : (wc.drewN t).frozen? ⟨g, 0, none⟩ = false := hgf
          have hgl' : g < (wc.drewN t).heap.size := hglt2
          clear x0 x1 hg hgf hglt2 hbst HM HE
          generalize hxx : l2[o] = x at *
          clear hxx
          go_upto_region 11 with fail
          generalize wc.drewN t = WX at *
          have HO := Lib.hid SX.out.at_.own
          have FG : Hid (∀ w2, Below WX.heap.size WX w2 → w2.cell? ⟨g, 0, none⟩ = some (.slice (some ⟨gg, 0, none⟩) l2.length c2) ∧ w2.frozen? ⟨g, 0, none⟩ = false) := Lib.hid fun w2 hb => ⟨(hb.cell (p := ⟨g, 0, none⟩) hgl').trans hg', (frozen_below hb hgl').trans hgf'⟩
          go_region_with (go_at_call 29; refine (without_any base _ l2 x.entry x.aud _ ?_ l2len).mono ?_; exact HO.out; rintro e w4 ⟨v1, rfl, s1, s2⟩; obtain ⟨A1, c1, rfl⟩ := own_shape s1; have T2 := Lib.hid ((Below.refl WX.heap.size WX).drew.trans s2); have T1 := Lib.hid s1; have d1 := (FG.out _ T2.out).1; have d2 := (FG.out _ T2.out).2; clear s1 s2)
          all_goals (go_wp2_with fail)
          all_goals (have SF := SX.out.store (by decide) (own_weaken T1.out (Nat.le_trans SX.out.at_.hbase (Nat.le_of_lt hgl'))) (Only.of_below T2.out) (fun k hk => .inr (own_lt T1.out hk).1))
          all_goals go_end0
          all_goals exact ⟨rfl, _, by rw [HE2.out]; exact SF⟩
end Go.Proofs.Ytffmhejkhimkcaa
