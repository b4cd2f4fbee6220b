/- ClosureFits: the walk. -/
import Derived.Test.YtcbfmpnkadkpdaaL1
import Derived.Test.YtcbfmpnkadkpdaaC19
import Derived.Laws.AppendOwnNone
set_option linter.unusedVariables false
namespace Go.Proofs.Ytcbfmpnkadkpdaa
open Go.RowKit

theorem own_cap {w : World} {base n : Nat} {A : Option Addr} {c : Nat} {e : TypeId} {s : Nat} {xs : List Value} (h : w.ownsRow base e s (.slice A n c) n xs) : n ≤ c ∧ c ≤ maxLen := by
  rcases h.2 with ⟨hv, h0⟩ | ⟨g, cap, cur, hv, _, _, h1, h2, _⟩
  · injection hv with h1 h2 h3
    subst h3
    exact ⟨by omega, Nat.zero_le _⟩
  · injection hv with h3 h4 h5
    subst h5
    exact ⟨h1, h2⟩

theorem append_own_any {P : Program} {w : World} {ops : Array Oper} {rest : List Oper} {o : Oper} {a : Act} {Q : Exit → Act → World → Prop} (hgd : o.guard = none) (s x : Operand) (t : TypeId)
    (ho : o.op = .call { callee := .builtin .append, args := #[s, x], argTypes := #[t, t] })
    (base : Nat) (e : TypeId) (i : TypeInfo) (z : Value) (size bytes : Nat) (ht : P.underlying t = some (.slice e)) (hi : P.info? e = some i) (hz : i.zero = some z)
    (hsize : i.size = size) (hby : i.bytes = bytes) (hzs : z.cells.size = size) (hsz : 0 < size)
    (v : Value) (n : Nat) (xs : List Value) (hs : a.eval s = v) (hown : w.ownsRow base e size v n xs)
    (ad : Option Addr) (m c : Nat) (news : List Value) (hx : a.eval x = .slice ad m c) (hnil : ad = none → m = 0 ∧ c = 0) (hl : news.length = m * size) (hnews : ∀ q, ad = some q → ∀ j u, news[j]? = some u → w.cell? (q.add j) = some u) (h1 : ∀ u ∈ news, u.oneCell' = true)
    (h63 : n + m ≤ maxLen) (hbytes : (n + m) * bytes ≤ 140737488355328) (hbase : base ≤ w.heap.size)
    (h : ∀ v' w', w'.ownsRow base e size v' (n + m) (xs ++ news) → w.grownBy w' v.ownBlock → wpList P ops Q rest (a.put o.dst v') w') : wpList P ops Q (o :: rest) a w := by
  cases ad with
  | some q => exact wpList_append_own w hgd s x t ho base e i z size bytes ht hi hz hsize hby hzs hsz v n xs hs hown q m c news hx hl (hnews q rfl) h1 h63 hbytes hbase fun v' w' h2 h3 _ => h v' w' h2 h3
  | none =>
    obtain ⟨rfl, rfl⟩ := hnil rfl
    have : news = [] := List.eq_nil_of_length_eq_zero (by rw [hl, Nat.zero_mul])
    subst this
    refine wpList_append_own_none hgd s x t ho base e i size ht hi v n xs hs hown hx (h v w ?_ ⟨rfl, rfl, rfl, Nat.le_refl _, fun _ _ _ => rfl⟩)
    rw [List.append_nil, Nat.add_zero]
    exact hown

theorem withinS_more {x ss : List ByteArray} (s : ByteArray) (h : withinS x ss = true) : withinS x (ss ++ [s]) = true := by
  unfold withinS hasS at *
  rw [List.all_eq_true] at h ⊢
  intro y hy
  have := h y hy
  rw [List.any_append, this, Bool.true_or]
theorem filter_sub {α : Type} (p q : α → Bool) (h : ∀ x, p x = true → q x = true) (l : List α) : (l.filter p).Sublist (l.filter q) := by
  induction l with
  | nil => exact List.Sublist.refl _
  | cons x l ih =>
    simp only [List.filter_cons]
    by_cases hp : p x = true
    · rw [if_pos hp, if_pos (h x hp)]
      exact ih.cons_cons x
    · rw [if_neg hp]
      split
      · exact ih.cons x
      · exact ih
theorem fits_in {agent : ByteArray} {d : ByteArray → Option Nat} {l M K : List En} {ss : List ByteArray} {s : ByteArray} (h : M.map core = (fitC agent d l ss).map core) (hk : K.map core = (fitC agent d l (ss ++ [s])).map core) : decide (gr (M.map core) (K.map core) = M.length) = true := by
  refine decide_eq_true ?_
  rw [gr_sub, List.length_map]
  rw [h, hk]
  exact (filter_sub _ _ (fun x => withinS_more s) _).map _
theorem fits_may {agent : ByteArray} {d : ByteArray → Option Nat} {l M K : List En} {ss : List ByteArray} (h : M.map core = (fitC agent d l ss).map core) (hk : K.map core = (mayC agent d l).map core) : decide (gr (M.map core) (K.map core) = M.length) = true := by
  refine decide_eq_true ?_
  rw [gr_sub, List.length_map]
  rw [h, hk]
  exact List.filter_sublist.map _
theorem strs_src {w : World} {A : Option Addr} {ss : List ByteArray} (h : StrsAt w A ss) : ∀ q, A = some q → ∀ j u, (strs ss)[j]? = some u → w.cell? (q.add j) = some u := fun q hq j u hu => by
  have hj : j < ss.length := by
    have := (List.getElem?_eq_some_iff.1 hu).1
    rwa [strs_len] at this
  obtain ⟨b, o, e, hlt, hc⟩ := h (by omega)
  rw [hq] at e
  injection e with e
  subst e
  rw [show (⟨b, o, none⟩ : Addr).add j = ⟨b, o + j, none⟩ by unfold Addr.add; split <;> simp_all]
  rw [hc j hj]
  simpa [strs, hj] using hu

set_option maxRecDepth 100000 in
set_option maxHeartbeats 4000000 in
theorem fits_walk (A : Option Addr) (n c : Nat) (l : List En) (a : ByteArray) (A2 : Option Addr) (c2 : Nat) (ss : List ByteArray) (more : ByteArray) (W : World) (g : ArgEns W A n c l) (ha : a.size ≤ reachBytes) (g2 : ArgStrs W A2 c2 ss) (hs2 : ss.length * 16 ≤ reachBytes) :
    Calls Try.prog 8 #[.slice A n c, .string a, .slice A2 ss.length c2, .string more] W fun e W' => e = .returned (.bool true) ∧ Below W.heap.size W W' := by
  obtain rfl := g.len
  obtain ⟨i0, hi0, hz0, hz1, hz2⟩ := info_parts Try.info9
  have FW := Lib.hid (few_any A c l W (Nat.le_trans g.cap g.capm) g.cap g.capm (fun h => by obtain ⟨b, o, e, _⟩ := g.at_ h; exact ⟨b, o, e⟩))
  have EL := Lib.hid (g.ens.take 24)
  have SZ : Hid (∀ e ∈ l.take 24, e.path.size ≤ maxLen ∧ e.parent.size ≤ maxLen) := Lib.hid fun e he => g.sizes e (List.mem_of_mem_take he)
  have hL : (l.take 24).length ≤ 24 := by rw [List.length_take]; omega
  have SA := Lib.hid g2.at_
  have SN := Lib.hid g2.nil
  have ha' := reach_max ha
  have hs' := reach_row hs2
  have hs3 : (ss.length + 1) * 16 ≤ 140737488355328 := by unfold reachBytes at hs2; omega
  have hs4 : Hid (ss.length + 1 ≤ maxLen) := Lib.hid (by unfold maxLen; omega)
  clear g ha g2 hs2
  generalize l.take 24 = L at *
  have FT := Lib.hid (fit_any A c L a A2 c2 ss W EL.out (by omega) ha' SZ.out SA.out hs')
  go_enter Try.func8, Try.ntmps8
  go_upto_region 4 with (first
    | (go_at_call 9; (with_reducible refine FW.out.mono ?_); rintro e w1 ⟨rfl, rfl⟩)
    | (go_at_call 16; (with_reducible refine FT.out.mono ?_); rintro e w2 ⟨A3, c3, M, rfl, o3, m3, b3⟩; have O3 := Lib.hid o3; have M3 := Lib.hid m3; have B3 := Lib.hid b3; clear o3 m3 b3))
  clear FW FT
  go_upto_region 5 with (at_builtin; refine append_own_any rfl (.tmp 19) (.tmp 20) 26 rfl w2.heap.size 9 i0 _ 1 16 Try.underlying26 hi0 hz0 hz1 hz2 rfl (by omega) _ 0 [] rfl (World.ownsRow_nil _ _ _ _) A2 ss.length c2 (strs ss) rfl SN.out (by rw [strs_len, Nat.mul_one]) (strs_src (SA.out.below B3.out)) (strs_one ss) (by have := hs4.out; omega) (by omega) (Nat.le_refl _) ?_; intro v4 w4 hown4 hgrow4)
  rw [Nat.zero_add, List.nil_append] at hown4
  have hgrow4 : w2.grownBy w4 none := hgrow4
  obtain ⟨A4, c4, rfl⟩ := own_shape hown4
  have R4 := Lib.hid hown4
  have B4 := Lib.hid (B3.out.grown hgrow4 B3.out.size (fun kk hkk => by cases hkk))
  have B24 := Lib.hid ((Below.refl w2.heap.size w2).grown hgrow4 (Nat.le_refl _) (fun kk hkk => by cases hkk))
  have H4 := hgrow4.size
  clear hown4 hgrow4
  go_upto_region 6 with (at_builtin; refine append_own_any rfl (.tmp 22) (.tmp 24) 26 rfl w2.heap.size 9 i0 _ 1 16 Try.underlying26 hi0 hz0 hz1 hz2 rfl (by omega) _ ss.length (strs ss) rfl (R4.out.alloc _) (some ⟨w4.heap.size, 0, none⟩) 1 1 [.string more] rfl (fun h => by cases h) rfl (fun q hq => by injection hq with hq; subst hq; exact World.news_of_block (cs := #[.string more]) (t := 9) (fr := (0, 0)) (heap_alloc_new w4 _)) (by simp [Value.oneCell']) hs4.out hs3 (by rw [World.size_alloc]; omega) ?_; intro v5 w5 hown5 hgrow5)
  rw [show ss.length + 1 = (ss ++ [more]).length by simp, show strs ss ++ [.string more] = strs (ss ++ [more]) by simp [strs]] at hown5
  obtain ⟨A5, c5, rfl⟩ := own_shape hown5
  have R5 := Lib.hid hown5
  have hgrow5 : (w4.alloc (.cells #[.string more] 9)).grownBy w5 (Value.slice A4 ss.length c4).ownBlock := hgrow5
  have hr4 : ∀ kk, (Value.slice A4 ss.length c4).ownBlock = some kk → w2.heap.size ≤ kk := fun kk hkk => (own_lt R4.out hkk).1
  have B5 : Hid (Below w1.heap.size w1 w5) := Lib.hid ((B4.out.alloc B4.out.size _).grown hgrow5 (by rw [World.size_alloc]; have := B4.out.size; omega) (fun kk hkk => Nat.le_trans B3.out.size (hr4 kk hkk)))
  have B25 : Below w2.heap.size w2 w5 := (B24.out.alloc H4 _).grown hgrow5 (by rw [World.size_alloc]; omega) hr4
  have O5 := Lib.hid (O3.out.below B25)
  clear hown5 hgrow5 R4 B4 B24 B25 B3 O3 hr4
  have MY := Lib.hid (fit_any A c L a A5 c5 (ss ++ [more]) w5 (EL.out.below B5.out) (by omega) ha' SZ.out (strs_at R5.out rfl) (by rw [List.length_append, List.length_singleton]; exact hs3))
  clear R5
  have FI := Lib.hid (fun (K : List En) (hk : K.map core = (fitC a (wayD a L) L (ss ++ [more])).map core) => fits_in M3.out hk)
  have M0 := Lib.hid (fit_sizes M3.out EL.out)
  have N0 := Lib.hid (Nat.le_trans (fit_len M3.out) hL)
  clear M3
  generalize ss ++ [more] = S5 at *
  go_upto_region 7 with (go_at_call 16; (with_reducible refine MY.out.mono ?_); rintro e w6 ⟨A6, c6, M2, rfl, o6, m6, b6⟩; have O6 := Lib.hid o6; have M6 := Lib.hid m6; have B6 := Lib.hid b6; clear o6 m6 b6)
  clear MY
  have B7 := Lib.hid (B5.out.trans (B6.out.mono B5.out.size))
  have O7 := Lib.hid (O5.out.below B6.out)
  have MY := Lib.hid (may_w A c L a w6 (EL.out.below B7.out) (by omega) ha' SZ.out)
  have F1 := Lib.hid (FI.out M2 M6.out)
  clear FI B5 B6 O5
  go_upto_region 8 with (go_at_call 13; (with_reducible refine MY.out.mono ?_); rintro e w8 ⟨A8, c8, M8, rfl, o8, m8, b8⟩; have O8 := Lib.hid o8; have M9 := Lib.hid m8; have B8 := Lib.hid b8; clear o8 m8 b8)
  clear MY
  have F2 := Lib.hid (fits_may M6.out M9.out)
  have SZ1 : Hid (M.length ≤ 24 ∧ M2.length ≤ 24 ∧ M8.length ≤ 24) := Lib.hid ⟨N0.out, Nat.le_trans (fit_len M6.out) hL, Nat.le_trans (may_len M9.out) hL⟩
  have ES := Lib.hid (O7.out.below B8.out |>.ens M0.out)
  have ES2 := Lib.hid (O6.out.below B8.out |>.ens (fit_sizes M6.out EL.out))
  have ES3 := Lib.hid (O8.out.ens (may_sizes M9.out EL.out))
  have C1 := Lib.hid (own_cap O7.out.row)
  have C2 := Lib.hid (own_cap O6.out.row)
  have C3 := Lib.hid (own_cap O8.out.row)
  have IN1 := inside_any A3 c3 M A6 c6 M2 w8 ES.out ES2.out (by have := SZ1.out.1; omega) (by have := SZ1.out.2.1; omega) C1.out.1 C2.out.1 C1.out.2 C2.out.2
  rw [F1.out] at IN1
  have IN1 := Lib.hid IN1
  have IN2 := fun nn => inside_any A6 c6 M2 A8 c8 M8 (w8.drewN nn) (ens_drewN ES2.out nn) (ens_drewN ES3.out nn) (by have := SZ1.out.2.1; omega) (by have := SZ1.out.2.2; omega) C2.out.1 C3.out.1 C2.out.2 C3.out.2
  simp only [F2.out] at IN2
  have IN2 := Lib.hid IN2
  have B9 := Lib.hid (B7.out.trans (B8.out.mono B7.out.size))
  clear F1 F2 ES ES2 ES3 C1 C2 C3 SZ1 M0 N0 M6 M9 O6 O7 O8 B7 B8 SA SN EL SZ
  go_wp2_with (first
    | (go_at_call 18; (with_reducible refine IN1.out.mono ?_); rintro e w9 ⟨rfl, nn, rfl⟩)
    | (go_at_call 18; (with_reducible refine (IN2.out _).mono ?_); rintro e w10 ⟨rfl, nn2, rfl⟩)
    | (go_at_call 12; (with_reducible refine (lives_any _).mono ?_); rintro e w11 ⟨rfl, hb⟩; have HB := Lib.hid hb; clear hb))
  go_ret
  exact ⟨rfl, (below_n B9.out _).trans (HB.out.mono (below_n B9.out _).size)⟩
end Go.Proofs.Ytcbfmpnkadkpdaa
