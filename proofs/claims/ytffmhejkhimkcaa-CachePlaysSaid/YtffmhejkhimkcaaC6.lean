/- A cache's memory, and how it is turned. -/
import Derived.Test.YtffmhejkhimkcaaC5
set_option linter.unusedVariables false
namespace Go.Proofs.Ytffmhejkhimkcaa
open Go.RowKit

/-- Block g of type T is a struct of the tokens l, in a row of its own from block base on, and of the number of uses. -/
structure CacheAt (w : World) (T base g : Nat) (v : Value) (l : List Kt) (u : Int) : Prop where
  hbase : base ≤ g
  blk : Blk w g T #[v, .int .i64 u]
  own : w.ownsRow base 27 7 v l.length (kts l)

/-- The blocks that a cache is made of. -/
def foot (g : Nat) (v : Value) (k : Nat) : Prop := k = g ∨ v.ownBlock = some k

theorem CacheAt.only {w w' : World} {T base g : Nat} {v : Value} {l : List Kt} {u : Int} {F : Nat → Prop} (h : CacheAt w T base g v l u) (hb : Only F w w') (hf : ∀ k, foot g v k → ¬ F k) : CacheAt w' T base g v l u :=
  ⟨h.hbase, h.blk.only hb (hf g (.inl rfl)), own_only h.own hb fun k hk => hf k (.inr hk)⟩
theorem own_lt {w : World} {base n : Nat} {v : Value} {xs : List Value} {k : Nat} (h : w.ownsRow base 27 7 v n xs) (hk : v.ownBlock = some k) : base ≤ k ∧ k < w.heap.size := by
  rcases h.2 with ⟨rfl, _⟩ | ⟨g', cap, cur, rfl, hg, hh, _⟩
  · simp [Value.ownBlock] at hk
  · have : g' = k := by simpa [Value.ownBlock] using hk
    subst this
    exact ⟨hg, (Array.getElem?_eq_some_iff.1 hh).1⟩

/-- From w0 on, where a cache's row was v0. -/
structure St (w0 : World) (T base g : Nat) (v0 v : Value) (l : List Kt) (u : Int) (w : World) : Prop where
  at_ : CacheAt w T base g v l u
  only : Only (foot g v0) w0 w
  fresh : ∀ k, v.ownBlock = some k → v0.ownBlock = some k ∨ w0.heap.size ≤ k

section
variable {w0 w w1 w' : World} {T base g : Nat} {v0 v v1 : Value} {l l1 : List Kt} {u : Int}
theorem St.refl (h : CacheAt w T base g v l u) : St w T base g v v l u w := ⟨h, Only.refl _ _, fun k hk => .inl hk⟩
theorem St.below (h : St w0 T base g v0 v l u w) (hb : Below w.heap.size w w') : St w0 T base g v0 v l u w' :=
  ⟨h.at_.only (F := fun _ => False) (Only.of_below hb) (fun _ _ x => x), h.only.trans (Only.of_below hb), h.fresh⟩
theorem St.ne (h : St w0 T base g v0 v l u w) (hT : T ≠ 27) : v.ownBlock ≠ some g := own_blk_ne h.at_.own h.at_.blk (Ne.symm hT)
theorem St.store (h : St w0 T base g v0 v l u w) (hT : T ≠ 27) (hown : w1.ownsRow base 27 7 v1 l1.length (kts l1)) (ho : Only (fun k => v.ownBlock = some k) w w1) (hf : ∀ k, v1.ownBlock = some k → v.ownBlock = some k ∨ w.heap.size ≤ k) :
    St w0 T base g v0 v1 l1 u (w1.setCell ⟨g, 0, none⟩ v1) := by
  have b1 : Blk w1 g T #[v, .int .i64 u] := h.at_.blk.only ho (h.ne hT)
  have hne := own_blk_ne hown b1 (Ne.symm hT)
  have o1 : Only (foot g v0) w0 w1 := h.only.then_ ho (fun i hi => by
    rcases h.fresh i hi with x | x
    · exact .inl (.inr x)
    · exact .inr x)
  refine ⟨⟨h.at_.hbase, b1.set_ 0 _, own_only (F := fun k => k = g) hown (Only.setCell (F := fun k => k = g) (p := ⟨g, 0, none⟩) (Only.refl _ _) (.inl rfl) _) (fun k hk e => hne (e ▸ hk))⟩, o1.setCell (.inl (.inl rfl)) _, fun k hk => ?_⟩
  rcases hf k hk with x | x
  · exact h.fresh k x
  · exact .inr (Nat.le_trans h.only.size x)
theorem St.use (h : St w0 T base g v0 v l u w) (hT : T ≠ 27) (u' : Int) : St w0 T base g v0 v l u' (w.setCell ⟨g, 1, none⟩ (.int .i64 u')) :=
  ⟨⟨h.at_.hbase, h.at_.blk.set_ 1 _, own_only (F := fun k => k = g) h.at_.own (Only.setCell (F := fun k => k = g) (p := ⟨g, 1, none⟩) (Only.refl _ _) (.inl rfl) _) (fun k hk e => h.ne hT (e ▸ hk))⟩, h.only.setCell (.inl (.inl rfl)) _, h.fresh⟩
theorem St.far (h : St w0 T base g v0 v l u w) {p : Addr} (hp : w0.heap.size ≤ p.block) (hg : g ≠ p.block) (hv : v.ownBlock ≠ some p.block) (x : Value) : St w0 T base g v0 v l u (w.setCell p x) :=
  ⟨⟨h.at_.hbase, h.at_.blk.far hg _, own_only (F := fun k => k = p.block) h.at_.own (Only.setCell (F := fun k => k = p.block) (Only.refl _ _) (.inl rfl) _) (fun k hk e => hv (e ▸ hk))⟩, h.only.setCell (.inr hp) _, h.fresh⟩
theorem St.drew (h : St w0 T base g v0 v l u w) : St w0 T base g v0 v l u w.drew := h.below (Below.refl _ _).drew
end

theorem Blk.setCells_far {t : TypeId} {g B : Nat} {cs : Array Value} (hg : B ≠ g) : ∀ (vs : List Value) (o : Nat) (w : World), Blk w B t cs → Blk (w.setCells g o vs) B t cs
  | [], _, _, h => h
  | v :: vs, o, _, h => Blk.setCells_far hg vs (o + 1) _ (h.far (p := ⟨g, o, none⟩) hg v)

/-- All but those of a mark. -/
theorem del_any (base : Nat) (v : Value) (l : List Kt) (B : Nat) (e : Int) (a : ByteArray) (w : World) (hI : Blk w B 51 #[.int .i64 e, .string a]) (hl : l.length ≤ 1000000) (hown : w.ownsRow base 27 7 v l.length (kts l)) :
    Calls Try.prog 18 #[v, .func (.func 33) #[] #[.pointer (some ⟨B, 0, none⟩)]] w (DelP base v (keptOf (isM e a) l) w) := by
  have hne := own_blk_ne hown hI (by decide)
  exact delete_any _ 33 _ _ (isP_pred B e a) base v l w hI hl hown (fun W g o vs hv hW => Blk.setCells_far (by rintro rfl; exact hne hv) vs o W hW)

theorem new_any (w : World) : Calls Try.prog 8 #[] w fun e w' => e = .returned (.pointer (some ⟨w.heap.size, 0, none⟩)) ∧ CacheAt w' 46 w.heap.size w.heap.size (.slice none 0 0) [] 0 ∧ Below w.heap.size w w' := by
  go_enter Try.func8, Try.ntmps8
  go_wp2
  go_ret
  exact ⟨rfl, ⟨Nat.le_refl _, Blk.new _ _ _, World.ownsRow_nil _ _ _ _⟩, (Below.refl _ _).alloc (Nat.le_refl _) _⟩

theorem all_any (base g : Nat) (v : Value) (l : List Kt) (u : Int) (w : World) (h : CacheAt w 46 base g v l u) (hl : l.length ≤ 1000) :
    Calls Try.prog 10 #[.pointer (some ⟨g, 0, none⟩)] w fun e w' => ∃ v', e = .returned v' ∧ w'.ownsRow w.heap.size 27 7 v' l.length (kts l) ∧ Below w.heap.size w w' := by
  have hg := h.blk.cell 0
  simp only [List.getElem?_toArray, List.getElem?_cons_zero] at hg
  have HC := Lib.hid (clone_any base v l w h.own hl)
  clear h
  go_enter Try.func10, Try.ntmps10
  go_wp2_with (go_at_call 23; (with_reducible refine HC.out.mono ?_); rintro e w' ⟨v', rfl, ho, hb⟩)
  go_ret
  exact ⟨_, rfl, ho, hb⟩

/-- A cache behind a token was put: plain. -/
def putL (l : List Kt) (u : Int) (k : Kt) : List Kt :=
  let l1 := keptOf (isM k.entry k.aud) l ++ [{ k with used := u + 1 }]
  if l1.length ≤ 6 then l1 else keptOf (isM (minK l1).entry (minK l1).aud) l1

def PutP (base g : Nat) (v : Value) (l' : List Kt) (u' : Int) (w : World) (e : Ending) (w' : World) : Prop :=
  e = .returned (.tuple #[]) ∧ ∃ v', St w 46 base g v v' l' u' w'

theorem heap1 (w : World) (o : Obj) : (w.alloc o).drew.heap[w.heap.size]? = some o := heap_alloc_new w o
theorem size1 (w : World) (o : Obj) : (w.alloc o).drew.heap.size = w.heap.size + 1 := by simp
theorem two_below (w : World) (o1 o2 : Obj) : Below w.heap.size w ((w.alloc o1).alloc o2).drew := (((Below.refl _ _).alloc (Nat.le_refl _) _).alloc (by rw [World.size_alloc]; omega) _).drew
theorem two_blk (w : World) (o1 : Obj) (t : TypeId) (cs : Array Value) : Blk ((w.alloc o1).alloc (.cells cs t)).drew (w.heap.size + 1) t cs := by
  have := Blk.new (w.alloc o1) t cs
  rw [World.size_alloc] at this
  exact this
theorem one_blk (w : World) (o2 : Obj) (t : TypeId) (cs : Array Value) : Blk ((w.alloc (.cells cs t)).alloc o2).drew w.heap.size t cs := (Blk.new w t cs).alloc o2

theorem kept_used (p : Kt → Bool) (l : List Kt) (k : Kt) (u b : Int) (hu : 0 ≤ u + 1 ∧ u + 1 ≤ b) (h : ∀ i, (h : i < l.length) → 0 ≤ l[i].used ∧ l[i].used ≤ b) : ∀ i, (h : i < (keptOf p l ++ [{ k with used := u + 1 }]).length) → 0 ≤ (keptOf p l ++ [{ k with used := u + 1 }])[i].used ∧ (keptOf p l ++ [{ k with used := u + 1 }])[i].used ≤ b := by
  intro i hi
  have hm : (keptOf p l ++ [{ k with used := u + 1 }])[i] ∈ keptOf p l ++ [{ k with used := u + 1 }] := List.getElem_mem hi
  generalize (keptOf p l ++ [{ k with used := u + 1 }])[i] = x at *
  rcases List.mem_append.1 hm with hm | hm
  · have : x ∈ l := (List.mem_filter.1 hm).1
    obtain ⟨j, hj, rfl⟩ := List.getElem_of_mem this
    exact h j hj
  · rw [List.mem_singleton.1 hm]
    exact hu

theorem St.push {w0 W2 w1 : World} {base g gg cap c : Nat} {v0 : Value} {A : Option Addr} {l1 : List Kt} {k' : Kt} {u : Int} {o : Obj} (h : St w0 46 base g v0 (.slice A l1.length c) l1 u W2)
    (hown1 : w1.ownsRow base 27 7 (.slice (some ⟨gg, 0, none⟩) (l1.length + 1) cap) (l1.length + 1) (kts l1 ++ k'.cells)) (hgrow : (W2.alloc o).drew.grownBy w1 (Value.slice A l1.length c).ownBlock)
    (hat : (Value.slice A l1.length c).ownBlock = some gg ∨ gg = W2.heap.size + 1) : St w0 46 base g v0 (.slice (some ⟨gg, 0, none⟩) (l1.length + 1) cap) (l1 ++ [k']) u (w1.setCell ⟨g, 0, none⟩ (.slice (some ⟨gg, 0, none⟩) (l1.length + 1) cap)) := by
  refine h.store (by decide) ?_ (Only.grown ((Only.refl _ W2).alloc _).drew hgrow (fun k hk => .inl hk)) (fun k hk => ?_)
  · rw [List.length_append, List.length_singleton, kts_append, kts_one]
    exact hown1
  · have : gg = k := by simpa [Value.ownBlock] using hk
    subst this
    rcases hat with e | e
    · exact .inl e
    · exact .inr (by omega)

set_option maxRecDepth 100000 in
set_option maxHeartbeats 4000000 in
theorem put_any (base g : Nat) (v : Value) (l : List Kt) (u : Int) (k : Kt) (w : World) (h : CacheAt w 46 base g v l u) (hu : 0 ≤ u ∧ u ≤ 1000) (hl : l.length ≤ 1000) (hus : ∀ i, (h : i < l.length) → 0 ≤ l[i].used ∧ l[i].used ≤ 1001) (hb : base ≤ w.heap.size) :
    Calls Try.prog 9 #[.pointer (some ⟨g, 0, none⟩), k.agg] w (PutP base g v (putL l u k) (u + 1) w) := by
  obtain ⟨i0, hi0, hz0, hz1, hz2⟩ := info_parts Try.info27
  have hg := h.blk.cell 0
  simp only [List.getElem?_toArray, List.getElem?_cons_zero] at hg
  have hgf := h.blk.frozen 0
  have hlt := h.blk.lt
  have hvl : ∀ k, v.ownBlock = some k → k < w.heap.size := fun k hk => (own_lt h.own hk).2
  have DC := Lib.hid (del_any base v l (w.heap.size + 1) k.entry k.aud ((w.alloc (.cells #[.int .i64 k.entry, .string k.aud, .string k.token, .int .i64 k.iat, .int .i64 k.exp, .int .i64 k.used, .string k.needs] 27)).alloc (.cells #[.int .i64 k.entry, .string k.aud] 51)).drew (two_blk w _ 51 _) (by omega) (own_only (F := fun _ => False) h.own (Only.of_below (two_below w _ _)) (fun _ _ h => h)))
  have S1 := Lib.hid ((St.refl h).below (two_below w (.cells #[.int .i64 k.entry, .string k.aud, .string k.token, .int .i64 k.iat, .int .i64 k.exp, .int .i64 k.used, .string k.needs] 27) (.cells #[.int .i64 k.entry, .string k.aud] 51)))
  have X1 := Lib.hid (one_blk w (.cells #[.int .i64 k.entry, .string k.aud] 51) 27 #[.int .i64 k.entry, .string k.aud, .string k.token, .int .i64 k.iat, .int .i64 k.exp, .int .i64 k.used, .string k.needs])
  have VL := Lib.hid hvl
  have FG : Hid (∀ w2, Only (fun k => v.ownBlock = some k) ((w.alloc (.cells #[.int .i64 k.entry, .string k.aud, .string k.token, .int .i64 k.iat, .int .i64 k.exp, .int .i64 k.used, .string k.needs] 27)).alloc (.cells #[.int .i64 k.entry, .string k.aud] 51)).drew w2 → w2.cell? ⟨g, 0, none⟩ = some v ∧ w2.frozen? ⟨g, 0, none⟩ = false) := Lib.hid fun w2 ho => by
    have b := S1.out.at_.blk.only ho (S1.out.ne (by decide))
    exact ⟨b.cell 0, b.frozen 0⟩
  have L2 : Hid ((keptOf (isM k.entry k.aud) l ++ [{ k with used := u + 1 }]).length ≤ 1001) := Lib.hid (by
    have := kept_le (isM k.entry k.aud) l
    rw [List.length_append, List.length_singleton]
    omega)
  have U2 := Lib.hid (kept_used (isM k.entry k.aud) l k u 1001 (by omega) hus)
  have PU : Hid (putL l u k = if (keptOf (isM k.entry k.aud) l ++ [{ k with used := u + 1 }]).length ≤ 6 then keptOf (isM k.entry k.aud) l ++ [{ k with used := u + 1 }] else keptOf (isM (minK (keptOf (isM k.entry k.aud) l ++ [{ k with used := u + 1 }])).entry (minK (keptOf (isM k.entry k.aud) l ++ [{ k with used := u + 1 }])).aud) (keptOf (isM k.entry k.aud) l ++ [{ k with used := u + 1 }])) := Lib.hid rfl
  have LK : Hid ((keptOf (isM k.entry k.aud) l).length ≤ 1000) := Lib.hid (Nat.le_trans (kept_le _ _) hl)
  generalize putL l u k = LL at *
  generalize keptOf (isM k.entry k.aud) l = l1 at *
  clear h hus hvl
  go_enter Try.func9, Try.ntmps9
  go_upto_region 1 with fail
  go_cut [] from 5 (fun wx => ∃ v1, St w 46 base g v v1 l1 u wx ∧ Blk wx w.heap.size 27 (k.cells).toArray ∧ v1.ownBlock ≠ some w.heap.size)
  case first =>
    go_region_with (first
      | (go_at_call 19; refine (is_any _ _ _).mono ?_; rintro e w2 ⟨rfl, rfl⟩)
      | (go_at_call 18; (with_reducible refine DC.out.mono ?_); rintro e w2 ⟨v1, rfl, s1, s2, s3⟩; obtain ⟨A, c, rfl⟩ := own_shape s1; have c1 := (FG.out _ s2).1; have c2 := (FG.out _ s2).2; have T1 := Lib.hid s1; have T2 := Lib.hid s2; have T3 := Lib.hid s3; clear s1 s2 s3))
    all_goals (go_wp2_with fail)
    all_goals go_meet
    all_goals exact ⟨_, S1.out.store (by decide) T1.out T2.out (fun k hk => .inl (T3.out k hk)), ((X1.out.only T2.out (fun hk => Nat.lt_irrefl _ (VL.out _ hk))).far (by show _ ≠ g; omega) _), fun hk => Nat.lt_irrefl _ (VL.out _ (T3.out _ hk))⟩
  case rest =>
    obtain ⟨v1, hs, hx, hne⟩ := hcut
    clear DC S1 X1 FG hg hgf
    obtain ⟨A, c, rfl⟩ := own_shape hs.at_.own
    have UC := Lib.hid (use_any g _ u wc hs.at_.blk (by omega))
    have y5 := hx.cell 5
    have y5f := hx.frozen 5
    simp only [Kt.cells, List.getElem?_toArray, List.getElem?_cons_zero, List.getElem?_cons_succ] at y5
    have S2 : Hid (St w 46 base g v (.slice A l1.length c) l1 (u + 1) ((wc.setCell ⟨g, 1, none⟩ (.int .i64 (u + 1))).setCell ⟨w.heap.size, 5, none⟩ (.int .i64 (u + 1)))) := Lib.hid ((hs.use (by decide) (u + 1)).far (Nat.le_refl _) (by show g ≠ w.heap.size; omega) hne _)
    have X2 : Hid (Blk ((wc.setCell ⟨g, 1, none⟩ (.int .i64 (u + 1))).setCell ⟨w.heap.size, 5, none⟩ (.int .i64 (u + 1))) w.heap.size 27 ({ k with used := u + 1 } : Kt).cells.toArray) := Lib.hid ((hx.far (p := ⟨g, 1, none⟩) (by show w.heap.size ≠ g; omega) _).set_ 5 _)
    clear hs hx hne
    go_upto_region 3 with (go_at_call 20; (with_reducible refine UC.out.mono ?_); rintro e w2 ⟨rfl, rfl⟩)
    generalize (wc.setCell ⟨g, 1, none⟩ (.int .i64 (u + 1))).setCell ⟨w.heap.size, 5, none⟩ (.int .i64 (u + 1)) = W2 at *
    clear UC y5 y5f
    have z0 := X2.out.cell 0
    have z1 := X2.out.cell 1
    have z2 := X2.out.cell 2
    have z3 := X2.out.cell 3
    have z4 := X2.out.cell 4
    have z5 := X2.out.cell 5
    have z6 := X2.out.cell 6
    simp only [Kt.cells, List.getElem?_toArray, List.getElem?_cons_zero, List.getElem?_cons_succ] at z0 z1 z2 z3 z4 z5 z6
    have hbx := X2.out.lt
    have hg := S2.out.at_.blk.cell 0
    simp only [List.getElem?_toArray, List.getElem?_cons_zero] at hg
    have hgf := S2.out.at_.blk.frozen 0
    have hglt := S2.out.at_.blk.lt
    have HN := Lib.hid (S2.out.ne (by decide))
    have HO := Lib.hid S2.out.at_.own
    have lk := LK.out
    go_cut [] from 5 (fun wx => ∃ v2, St w 46 base g v v2 (l1 ++ [{ k with used := u + 1 }]) (u + 1) wx)
    case first =>
      go_region_law ((refine step_append_lies _ (by rfl) (.tmp 26) (.tmp 28) 22 (by rfl) base 27 i0 _ 7 80 Try.underlying22 hi0 hz0 hz1 hz2 rfl (by omega) (.slice A l1.length c) l1.length (kts l1) (by simp [Act.eval]) (HO.out.alloc _) ⟨W2.heap.size, 0, none⟩ 1 1 [.int .i64 k.entry, .string k.aud, .string k.token, .int .i64 k.iat, .int .i64 k.exp, .int .i64 (u + 1), .string k.needs] (by simp [Act.eval]) (by rfl) (World.news_of_block (cs := #[.int .i64 k.entry, .string k.aud, .string k.token, .int .i64 k.iat, .int .i64 k.exp, .int .i64 (u + 1), .string k.needs]) (t := 27) (fr := (0, 0)) (heap1 _ _)) (by simp [Value.oneCell']) (by omega) (by unfold maxLen; omega) (by omega) (by simp; omega) (W2.heap.size + 1) (size1 _ _) ?_; intro gg cap w1 hown1 hgrow hat hlt1; have c1 : w1.cell? ⟨g, 0, none⟩ = some (.slice A l1.length c) := (by rw [hgrow.cell_far _ (by simp; omega) (Ne.symm HN.out)]; go_simp); have c2 : w1.frozen? ⟨g, 0, none⟩ = false := (by rw [hgrow.frozen_far _ (by simp; omega) (Ne.symm HN.out)]; go_simp)))
      all_goals (go_wp2_with fail)
      all_goals go_meet
      all_goals exact ⟨_, S2.out.push (k' := { k with used := u + 1 }) hown1 hgrow hat⟩
    case rest =>
      obtain ⟨v2, hs⟩ := hcut
      clear HO HN z0 z1 z2 z3 z4 z5 z6 X2 S2 hg hgf hglt hbx
      have P2 : Hid (0 < (l1 ++ [{ k with used := u + 1 }]).length) := Lib.hid (by rw [List.length_append, List.length_singleton]; omega)
      generalize l1 ++ [{ k with used := u + 1 }] = l2 at *
      have l2len := L2.out
      have l2pos := P2.out
      obtain ⟨gg, cap, rfl⟩ : ∃ gg cap, v2 = .slice (some ⟨gg, 0, none⟩) l2.length cap := by
        rcases hs.at_.own.2 with ⟨_, h0⟩ | ⟨gg, cap, cur, rfl, _⟩
        · exact absurd h0 (by omega)
        · exact ⟨gg, cap, rfl⟩
      have hg := hs.at_.blk.cell 0
      simp only [List.getElem?_toArray, List.getElem?_cons_zero] at hg
      have hglt := hs.at_.blk.lt
      have S3 := Lib.hid hs
      by_cases hle : l2.length ≤ 6
      · have hlei : (l2.length : Int) ≤ 6 := by omega
        have HE : Hid (LL = l2) := Lib.hid (by rw [PU.out, if_pos hle])
        clear hs PU L2 U2 P2 hle
        go_wp2_with fail
        first
          | (go_end0; exact ⟨rfl, _, HE.out ▸ S3.out⟩)
          | exact bodyPost_ret (v := .tuple #[]) (by simp [results, Try.results9, go_sem]) rfl ⟨rfl, _, HE.out ▸ S3.out⟩
      · have hlei : ¬ (l2.length : Int) ≤ 6 := by omega
        have HE : Hid (LL = keptOf (isM (minK l2).entry (minK l2).aud) l2) := Lib.hid (by rw [PU.out, if_neg hle])
        have MC := Lib.hid (min_any gg cap l2 wc (cellsAt hs.at_.own) (own_lt hs.at_.own rfl).2 l2pos (by omega) (fun i h => ⟨(U2.out i h).1, by have := (U2.out i h).2; omega⟩))
        generalize minK l2 = o at *
        clear hs PU U2 P2 hle
        go_upto_region 6 with (go_at_call 21; (with_reducible refine MC.out.mono ?_); rintro e w4 ⟨rfl, hb4⟩; have HB4 := Lib.hid hb4; clear hb4)
        have S4 := Lib.hid (S3.out.below HB4.out)
        have hg4 := S4.out.at_.blk.cell 0
        simp only [List.getElem?_toArray, List.getElem?_cons_zero] at hg4
        have hglt4 := S4.out.at_.blk.lt
        have S5 := Lib.hid (S4.out.below (two_below w4 (.cells #[.int .i64 o.entry, .string o.aud, .string o.token, .int .i64 o.iat, .int .i64 o.exp, .int .i64 o.used, .string o.needs] 27) (.cells #[.int .i64 o.entry, .string o.aud] 51)))
        have FG : Hid (∀ w2, Only (fun k => (Value.slice (some ⟨gg, 0, none⟩) l2.length cap).ownBlock = some k) ((w4.alloc (.cells #[.int .i64 o.entry, .string o.aud, .string o.token, .int .i64 o.iat, .int .i64 o.exp, .int .i64 o.used, .string o.needs] 27)).alloc (.cells #[.int .i64 o.entry, .string o.aud] 51)).drew w2 → w2.cell? ⟨g, 0, none⟩ = some (.slice (some ⟨gg, 0, none⟩) l2.length cap) ∧ w2.frozen? ⟨g, 0, none⟩ = false) := Lib.hid fun w2 ho => by
          have b := S5.out.at_.blk.only ho (S5.out.ne (by decide))
          exact ⟨b.cell 0, b.frozen 0⟩
        have DC := Lib.hid (del_any base (.slice (some ⟨gg, 0, none⟩) l2.length cap) l2 (w4.heap.size + 1) o.entry o.aud ((w4.alloc (.cells #[.int .i64 o.entry, .string o.aud, .string o.token, .int .i64 o.iat, .int .i64 o.exp, .int .i64 o.used, .string o.needs] 27)).alloc (.cells #[.int .i64 o.entry, .string o.aud] 51)).drew (two_blk w4 _ 51 _) (by omega) S5.out.at_.own)
        clear hg hglt
        go_region_with (first
          | (go_at_call 19; refine (is_any _ _ _).mono ?_; rintro e w2 ⟨rfl, rfl⟩)
          | (go_at_call 18; (with_reducible refine DC.out.mono ?_); rintro e w2 ⟨v1, rfl, s1, s2, s3⟩; obtain ⟨A, c, rfl⟩ := own_shape s1; have c1 := (FG.out _ s2).1; have c2 := (FG.out _ s2).2; have T1 := Lib.hid s1; have T2 := Lib.hid s2; have T3 := Lib.hid s3; clear s1 s2 s3))
        all_goals (go_wp2_with fail)
        all_goals (have SF := S5.out.store (by decide) T1.out T2.out (fun k hk => .inl (T3.out k hk)))
        all_goals go_end0
        all_goals exact ⟨rfl, _, by rw [HE.out]; exact SF⟩
end Go.Proofs.Ytffmhejkhimkcaa
