/- ClosureMore: the walk. -/
import Derived.Test.YtcbfmpnkadkpdaaL3
set_option linter.unusedVariables false
namespace Go.Proofs.Ytcbfmpnkadkpdaa
open Go.RowKit Go.ChangeShapes Go.WideShapes Go.Deep

/-- With more entries no path is lost. -/
theorem way_more {agent : ByteArray} {l m : List En} {d d' : ByteArray → Option Nat} (h : Done agent l d) (h' : Done agent m d') (hs : ∀ e ∈ l, e ∈ m) : ∀ N n p, n < N → d p = some n → ∃ k, d' p = some k := by
  intro N
  induction N with
  | zero => intro n p hn; omega
  | succ N ih =>
    intro n p hn hp
    obtain ⟨e, he, hep, hst⟩ := h.sup p n hp
    have hx : ∃ k, stepR agent d' e = some k := by
      unfold stepR at hst ⊢
      by_cases c : e.parent = agent
      · exact ⟨1, if_pos c⟩
      · rw [if_neg c] at hst ⊢
        cases hd : d e.parent with
        | none => rw [hd] at hst; cases hst
        | some j =>
          rw [hd] at hst
          simp only [Option.map_some, Option.some.injEq] at hst
          obtain ⟨k, hk⟩ := ih j e.parent (by omega) hd
          exact ⟨k + 1, by rw [hk]; rfl⟩
    obtain ⟨k, hk⟩ := hx
    obtain ⟨m', h1, _⟩ := h'.shut e (hs e he) k hk
    rw [hep] at h1
    exact ⟨m', h1⟩
theorem isF_more {agent : ByteArray} {l m : List En} {d d' : ByteArray → Option Nat} (h : Done agent l d) (h' : Done agent m d') (hs : ∀ e ∈ l, e ∈ m) (x : En) (hx : isF agent d x = true) : isF agent d' x = true := by
  unfold isF stepR at *
  by_cases c : x.parent = agent
  · rw [if_pos c]; rfl
  · rw [if_neg c] at hx ⊢
    cases hd : d x.parent with
    | none => rw [hd] at hx; cases hx
    | some j =>
      obtain ⟨k, hk⟩ := way_more h h' hs (j + 1) j x.parent (by omega) hd
      rw [hk]
      rfl
theorem more_in {agent : ByteArray} {l M K : List En} {e : En} (h : M.map core = (mayC agent (wayD agent l) l).map core) (hk : K.map core = (mayC agent (wayD agent (l ++ [e])) (l ++ [e])).map core) : gr (M.map core) (K.map core) = M.length := by
  rw [gr_sub, List.length_map]
  rw [h, hk]
  refine List.Sublist.map _ ?_
  unfold mayC
  rw [List.filter_append]
  exact (filter_sub _ _ (isF_more (wayD_done agent l) (wayD_done agent (l ++ [e])) (fun x hx => List.mem_append_left _ hx)) l).trans (List.sublist_append_left _ _)

theorem ens_nil {H : Type} {enc : TypeId × Value → H} {W : World} {sp : Nat → Bool} {held : Bool} {base : Nat} {A : Option Addr} {n c : Nat} {d : DataW H} {p : List MemPlace} (h : DataW.Trod enc Try.prog W base sp held 22 (.slice A n c) d p) : A = none → n = 0 ∧ c = 0 := by
  intro hA
  subst hA
  obtain ⟨fuel, hf⟩ := h
  rcases open_slice Try.underlying22 hf with ⟨hcs, _⟩ | ⟨ad, len, cap, m, k, D, Pl, hcs, _⟩
  · simp [Value.cells] at hcs
    exact hcs
  · simp [Value.cells] at hcs

theorem ens_src {w : World} {A : Option Addr} {l : List En} (h : EnsAt w A l) : ∀ q, A = some q → ∀ j u, (ens l)[j]? = some u → w.cell? (q.add j) = some u := fun q hq j u hu => by
  have hj : j < l.length * 5 := by
    have := (List.getElem?_eq_some_iff.1 hu).1
    rwa [ens_len] at this
  have hp : 0 < l.length := by omega
  obtain ⟨b, o, e, hlt, hc⟩ := h.at_ hp
  rw [hq] at e
  injection e with e
  subst e
  rw [show (⟨b, o, none⟩ : Addr).add j = ⟨b, o + j, none⟩ by unfold Addr.add; split <;> simp_all]
  have hi : j / 5 < l.length := by omega
  have hr : j % 5 < 5 := by omega
  have e1 : j = j / 5 * 5 + j % 5 := by omega
  have h1 := ens_at l (j / 5) hi (j % 5) hr
  rw [← e1, hu] at h1
  obtain ⟨z0, z1, z2, z3, z4⟩ := hc (j / 5) hi
  generalize l[j / 5] = x at *
  generalize j / 5 = k at *
  generalize hr' : j % 5 = r at *
  subst e1
  match r, hr with
  | 0, _ => rw [show o + (k * 5 + 0) = o + k * 5 by omega, z0]; exact h1.symm ▸ rfl
  | 1, _ => rw [show o + (k * 5 + 1) = o + k * 5 + 1 by omega, z1]; exact h1.symm ▸ rfl
  | 2, _ => rw [show o + (k * 5 + 2) = o + k * 5 + 2 by omega, z2]; exact h1.symm ▸ rfl
  | 3, _ => rw [show o + (k * 5 + 3) = o + k * 5 + 3 by omega, z3]; exact h1.symm ▸ rfl
  | 4, _ => rw [show o + (k * 5 + 4) = o + k * 5 + 4 by omega, z4]; exact h1.symm ▸ rfl

set_option maxRecDepth 100000 in
set_option maxHeartbeats 4000000 in
theorem more_walk (A : Option Addr) (n c : Nat) (l : List En) (x : En) (a : ByteArray) (W : World) (g : ArgEns W A n c l) (hA : A = none → n = 0 ∧ c = 0) (gx : ArgEn W x) (ha : a.size ≤ reachBytes) :
    Calls Try.prog 4 #[.slice A n c, x.agg, .string a] W fun e W' => e = .returned (.bool true) ∧ Below W.heap.size W W' := by
  obtain rfl := g.len
  obtain ⟨i0, hi0, hz0, hz1, hz2⟩ := info_parts Try.info28
  have hcap := g.cap
  have hcapm := g.capm
  unfold maxLen at hcapm
  have AD := Lib.hid (fun h => by obtain ⟨b, o, e, _⟩ := g.at_ h; exact (⟨b, o, e⟩ : ∃ b o, A = some ⟨b, o, none⟩))
  have EL := Lib.hid (g.ens.take 23)
  have SZ : Hid (∀ e ∈ l.take 23, e.path.size ≤ maxLen ∧ e.parent.size ≤ maxLen) := Lib.hid fun e he => g.sizes e (List.mem_of_mem_take he)
  have hL : (l.take 23).length ≤ 23 := by rw [List.length_take]; omega
  have NL : Hid (A = none → (l.take 23).length = 0 ∧ c = 0) := Lib.hid fun h => by
    have := hA h
    rw [List.length_take]
    omega
  have XA : Hid (StrsAt W x.A x.sel ∧ x.sel.length * 16 ≤ 140737488355328 ∧ (x.A = none → x.sel.length = 0 ∧ x.c = 0)) := Lib.hid ⟨gx.strs.at_, reach_row gx.len, gx.strs.nil⟩
  have XZ : Hid (x.path.size ≤ maxLen ∧ x.parent.size ≤ maxLen) := Lib.hid ⟨reach_max gx.path, reach_max gx.parent⟩
  have ha' := reach_max ha
  have B1 : Hid (Below W.heap.size W (W.alloc (.cells #[.int .i64 x.n, .string x.path, .string x.parent, .int .i64 x.ttl, .slice x.A x.sel.length x.c] 28))) := Lib.hid ((Below.refl _ _).alloc (Nat.le_refl _) _)
  have BX : Hid (Blk (W.alloc (.cells #[.int .i64 x.n, .string x.path, .string x.parent, .int .i64 x.ttl, .slice x.A x.sel.length x.c] 28)) W.heap.size 28 #[.int .i64 x.n, .string x.path, .string x.parent, .int .i64 x.ttl, .slice x.A x.sel.length x.c]) := Lib.hid (Blk.new W 28 _)
  clear g gx ha hA
  go_enter Try.func4, Try.ntmps4
  go_upto_if 15 with fail
  generalize W.alloc (.cells #[.int .i64 x.n, .string x.path, .string x.parent, .int .i64 x.ttl, .slice x.A x.sel.length x.c] 28) = W1 at *
  go_cut [0] from 13 (fun v w1 => v = .slice A (l.take 23).length c ∧ w1 = W1)
  case first =>
    by_cases h : 23 < l.length
    · obtain ⟨b, o, rfl⟩ := AD.out (by omega)
      have k1 : (l.length : Int) > 23 := by omega
      have k2 : (23 : Int) ≤ (c : Int) := by omega
      have e : Hid ((l.take 23).length = 23) := Lib.hid (by rw [List.length_take]; omega)
      have k3 : (23 : Int) < (l.length : Int) := by omega
      go_wp2_with fail
      go_meet
      exact ⟨by rw [e.out], rfl⟩
    · have k1 : ¬ (l.length : Int) > 23 := by omega
      have k3 : ¬ (23 : Int) < (l.length : Int) := by omega
      have e : Hid ((l.take 23).length = l.length) := Lib.hid (by rw [List.length_take]; omega)
      go_wp2_with fail
      go_meet
      exact ⟨by rw [e.out], rfl⟩
  case rest =>
    obtain ⟨rfl, rfl⟩ := hcut
    clear hcap AD
    have HBX := BX.out.lt
    have EL1 := Lib.hid (EL.out.below B1.out)
    generalize l.take 23 = L at *
    go_upto_region 5 with (at_builtin; refine append_own_any rfl (.tmp 18) (.tmp 19) 22 rfl wc.heap.size 28 i0 _ 5 72 Try.underlying22 hi0 hz0 hz1 hz2 rfl (by omega) _ 0 [] rfl (World.ownsRow_nil _ _ _ _) A L.length c (ens L) rfl NL.out (ens_len L) (ens_src EL1.out) (ens_one_cell L) (by unfold maxLen; omega) (by omega) (Nat.le_refl _) ?_; intro v4 w4 hown4 hgrow4)
    rw [Nat.zero_add, List.nil_append] at hown4
    have hgrow4 : wc.grownBy w4 none := hgrow4
    obtain ⟨A4, c4, rfl⟩ := own_shape hown4
    have R4 := Lib.hid hown4
    have B24 := Lib.hid ((Below.refl wc.heap.size wc).grown hgrow4 (Nat.le_refl _) (fun kk hkk => by cases hkk))
    have H4 := hgrow4.size
    have BX4 : Hid (Blk w4 W.heap.size 28 #[.int .i64 x.n, .string x.path, .string x.parent, .int .i64 x.ttl, .slice x.A x.sel.length x.c]) := Lib.hid ((B24.out.block _ BX.out.lt).trans BX.out)
    have c0 := BX4.out.cell 0
    have c1 := BX4.out.cell 1
    have c2 := BX4.out.cell 2
    have c3 := BX4.out.cell 3
    have c4' := BX4.out.cell 4
    clear hown4 hgrow4 BX
    simp only [List.getElem?_toArray, List.getElem?_cons_zero, List.getElem?_cons_succ] at c0 c1 c2 c3 c4'
    go_upto_region 6 with (at_builtin; refine append_own_any rfl (.tmp 21) (.tmp 23) 22 rfl wc.heap.size 28 i0 _ 5 72 Try.underlying22 hi0 hz0 hz1 hz2 rfl (by omega) _ L.length (ens L) rfl (R4.out.alloc _) (some ⟨w4.heap.size, 0, none⟩) 1 1 [.int .i64 x.n, .string x.path, .string x.parent, .int .i64 x.ttl, .slice x.A x.sel.length x.c] rfl (fun h => by cases h) rfl (fun q hq => by injection hq with hq; subst hq; exact World.news_of_block (cs := #[.int .i64 x.n, .string x.path, .string x.parent, .int .i64 x.ttl, .slice x.A x.sel.length x.c]) (t := 28) (fr := (0, 0)) (heap_alloc_new w4 _)) (by simp [Value.oneCell']) (by unfold maxLen; omega) (by omega) (by rw [World.size_alloc]; omega) ?_; intro v5 w5 hown5 hgrow5)
    rw [show L.length + 1 = (L ++ [x]).length by simp, show ens L ++ [.int .i64 x.n, .string x.path, .string x.parent, .int .i64 x.ttl, .slice x.A x.sel.length x.c] = ens (L ++ [x]) by rw [ens_append, ens_one]; rfl] at hown5
    obtain ⟨A5, c5, rfl⟩ := own_shape hown5
    have R5 := Lib.hid hown5
    have hgrow5 : (w4.alloc (.cells #[.int .i64 x.n, .string x.path, .string x.parent, .int .i64 x.ttl, .slice x.A x.sel.length x.c] 28)).grownBy w5 (Value.slice A4 L.length c4).ownBlock := hgrow5
    have B25 : Hid (Below wc.heap.size wc w5) := Lib.hid ((B24.out.alloc H4 _).grown hgrow5 (by rw [World.size_alloc]; omega) (fun kk hkk => (own_lt R4.out hkk).1))
    clear hown5 hgrow5 R4 B24 c0 c1 c2 c3 c4' BX4
    have B05 := Lib.hid (B1.out.trans (B25.out.mono B1.out.size))
    have EM : Hid (EnsAt w5 A5 (L ++ [x])) := Lib.hid (own_ens R5.out rfl fun e he => by
      rcases List.mem_append.1 he with he | he
      · exact (EL.out.below B05.out).sel e he
      · rw [List.mem_singleton.1 he]
        exact ⟨XA.out.1.below B05.out, XA.out.2⟩)
    have ZM : Hid (∀ e ∈ L ++ [x], e.path.size ≤ maxLen ∧ e.parent.size ≤ maxLen) := Lib.hid fun e he => by
      rcases List.mem_append.1 he with he | he
      · exact SZ.out e he
      · rw [List.mem_singleton.1 he]
        exact XZ.out
    have hM : (L ++ [x]).length ≤ 24 := by rw [List.length_append, List.length_singleton]; omega
    have MY := Lib.hid (may_w A c L a w5 (EL.out.below B05.out) (by omega) ha' SZ.out)
    have MI := Lib.hid (fun (M K : List En) (hm : M.map core = (mayC a (wayD a L) L).map core) (hk : K.map core = (mayC a (wayD a (L ++ [x])) (L ++ [x])).map core) => more_in hm hk)
    clear R5 XA XZ
    generalize L ++ [x] = K at *
    go_upto_region 7 with (go_at_call 13; (with_reducible refine MY.out.mono ?_); rintro e w6 ⟨A6, c6, M, rfl, o6, m6, b6⟩; have O6 := Lib.hid o6; have M6 := Lib.hid m6; have B6 := Lib.hid b6; clear o6 m6 b6)
    clear MY
    have LM := Lib.hid (may_len M6.out)
    have S6 := Lib.hid (may_sizes M6.out EL.out)
    have MY := Lib.hid (may_w A5 c5 K a w6 (EM.out.below B6.out) (by omega) ha' ZM.out)
    go_upto_region 8 with (go_at_call 13; (with_reducible refine MY.out.mono ?_); rintro e w8 ⟨A8, c8, M8, rfl, o8, m8, b8⟩; have O8 := Lib.hid o8; have M9 := Lib.hid m8; have B8 := Lib.hid b8; clear o8 m8 b8)
    clear MY
    have GR := Lib.hid (MI.out M M8 M6.out M9.out)
    have HA := Lib.hid ((O6.out.below B8.out).ens S6.out)
    have HB := Lib.hid (O8.out.ens (may_sizes M9.out EM.out))
    have hn : M.length ≤ 1000 := by have := LM.out; omega
    have hn1 : M8.length ≤ 1000 := by have := may_len M9.out; omega
    have hc := (own_cap O6.out.row).1
    have hcm := (own_cap O6.out.row).2
    have hc1 := (own_cap O8.out.row).1
    have hcm1 := (own_cap O8.out.row).2
    have BB := Lib.hid ((B05.out.trans (B6.out.mono B05.out.size)).trans (B8.out.mono (B05.out.trans (B6.out.mono B05.out.size)).size))
    unfold maxLen at hcm hcm1
    clear MI M6 M9 O6 O8 B6 B8 S6 LM B25 B05 EM ZM EL EL1 SZ NL B1 hM
    go_wp2_with fail
    go_loopw [10, 11, 12] (fun kv q _ wr => ∃ k i : Nat, k ≤ M.length ∧ i ≤ M8.length ∧ kv = .int .i64 k ∧ q = .int .i64 i ∧ Hid (k + gr ((M.map core).drop k) ((M8.map core).drop i) = gr (M.map core) (M8.map core)) ∧ Hid (Dr w8 wr)) (fun _ q _ _ => M8.length - (intOf q).toNat)
    case atStart => exact ⟨0, 0, by omega, by omega, rfl, rfl, Lib.hid (by simp), Lib.hid ⟨0, rfl⟩⟩
    case round =>
      obtain ⟨k, i, hk, hi, rfl, rfl, hg, dr⟩ := hrel
      by_cases hgo : i < M8.length ∧ k < M.length
      · obtain ⟨hit, hkt⟩ := hgo
        have i1 : (i : Int) < (M8.length : Int) := by omega
        have k1 : (k : Int) < (M.length : Int) := by omega
        have k0 : (0 : Int) ≤ (k : Int) := by omega
        have iz : (0 : Int) ≤ (i : Int) := by omega
        have k2 : (k : Int) + 1 ≤ (c6 : Int) := by omega
        have i2 : (i : Int) + 1 ≤ (c8 : Int) := by omega
        have wk : IntKind.i64.wrap ((k : Int) + 1) = (k : Int) + 1 := IntWalk.i64_in _ (by omega)
        have wi : IntKind.i64.wrap ((i : Int) + 1) = (i : Int) + 1 := IntWalk.i64_in _ (by omega)
        obtain ⟨b', o, rfl, hbl, hce⟩ := HA.out.at_ (by omega)
        obtain ⟨b2, o2, rfl, hbl2, hce2⟩ := HB.out.at_ (by omega)
        have SC := Lib.hid (fun (nn ca cb : Nat) => same_one b' o b2 o2 ca cb M M8 k i (wr.drewN nn) (ens_drewN (dr.out.ens HA.out) nn) (ens_drewN (dr.out.ens HB.out) nn) hkt hit)
        have GH := Lib.hid (fun h => gr_hit (M.map core) (M8.map core) k i (by rw [List.length_map]; exact hkt) (by rw [List.length_map]; exact hit) h)
        have GM := Lib.hid (fun h => gr_miss (M.map core) (M8.map core) k i (by rw [List.length_map]; exact hkt) (by rw [List.length_map]; exact hit) h)
        simp only [List.getElem_map] at GH GM
        clear hce hce2
        by_cases he : core M[k] = core M8[i]
        · have hd : decide (core M[k] = core M8[i]) = true := decide_eq_true he
          have G2 : Hid ((k + 1) + gr ((M.map core).drop (k + 1)) ((M8.map core).drop (i + 1)) = gr (M.map core) (M8.map core)) := Lib.hid (by rw [← hg.out, GH.out he]; omega)
          simp only [hd] at SC
          clear hd he GH GM hg
          go_upto_region 12 with fail
          go_quiet (first | (go_at_call 14; refine Calls.quiet_of (SC.out _ _ _)))
          go_wp2_with fail
          go_roundw
          case rel => exact ⟨k + 1, i + 1, by omega, by omega, by go_num, by go_num, G2, Lib.hid (dr.out.more _)⟩
          case measure => simp [intOf]; omega
        · have hd : decide (core M[k] = core M8[i]) = false := decide_eq_false he
          have G2 : Hid (k + gr ((M.map core).drop k) ((M8.map core).drop (i + 1)) = gr (M.map core) (M8.map core)) := Lib.hid (by rw [← hg.out, GM.out he])
          simp only [hd] at SC
          clear hd he GH GM hg
          go_upto_region 12 with fail
          go_quiet (first | (go_at_call 14; refine Calls.quiet_of (SC.out _ _ _)))
          go_wp2_with fail
          go_roundw
          case rel => exact ⟨k, i + 1, by omega, by omega, rfl, by go_num, G2, Lib.hid (dr.out.more _)⟩
          case measure => simp [intOf]; omega
      · have hkl : Hid (k = M.length) := Lib.hid (by
          by_cases hit : i < M8.length
          · omega
          · have := hg.out
            rw [List.drop_of_length_le (l := M8.map core) (by rw [List.length_map]; omega), gr_end, GR.out] at this
            omega)
        have e1 : ((k : Int) == (M.length : Int)) = true := by rw [hkl.out]; exact beq_self_eq_true _
        have BW : Hid (Below W.heap.size W wr) := Lib.hid (by obtain ⟨nn, e⟩ := dr.out; rw [e]; exact below_n BB.out nn)
        have LV := Lib.hid (lives_any wr)
        have k1 : ¬ (k : Int) < (M.length : Int) := by have := hkl.out; omega
        clear hg
        by_cases hit : i < M8.length
        · have i1 : (i : Int) < (M8.length : Int) := by omega
          go_wp2_with (go_at_call 12; (with_reducible refine LV.out.mono ?_); rintro e w10 ⟨rfl, hb⟩; have HB := Lib.hid hb; clear hb)
          go_ret
          exact ⟨rfl, BW.out.trans (HB.out.mono BW.out.size)⟩
        · have i1 : ¬ (i : Int) < (M8.length : Int) := by omega
          go_wp2_with (go_at_call 12; (with_reducible refine LV.out.mono ?_); rintro e w10 ⟨rfl, hb⟩; have HB := Lib.hid hb; clear hb)
          go_ret
          exact ⟨rfl, BW.out.trans (HB.out.mono BW.out.size)⟩
end Go.Proofs.Ytcbfmpnkadkpdaa
