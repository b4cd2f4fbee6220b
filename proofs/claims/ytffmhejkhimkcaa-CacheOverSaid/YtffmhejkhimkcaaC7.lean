/- Get: the walk. -/
import Derived.Test.YtffmhejkhimkcaaM1
set_option linter.unusedVariables false
namespace Go.Proofs.Ytffmhejkhimkcaa
open Go.RowKit

theorem kts_setUsed : ∀ (l : List Kt) (i : Nat) (d : Int) (h : i < l.length), (kts l).set (i * 7 + 5) (.int .i64 d) = kts (l.set i { l[i] with used := d })
  | [], _, _, h => by simp at h
  | p :: l, 0, d, h => by simp [kts, Kt.cells]
  | p :: l, i + 1, d, h => by
    have ih := kts_setUsed l i d (by simpa using h)
    have e : (i + 1) * 7 + 5 = (i * 7 + 5) + 1 + 1 + 1 + 1 + 1 + 1 + 1 := by omega
    rw [e]
    simp only [kts, List.flatMap_cons, Kt.cells, List.set_cons_succ, List.cons_append, List.nil_append, List.getElem_cons_succ] at ih ⊢
    rw [ih]
theorem own_setUsed {w : World} {base g n cap : Nat} {l : List Kt} {i : Nat} (h : w.ownsRow base 27 7 (.slice (some ⟨g, 0, none⟩) n cap) n (kts l)) (hi : i < l.length) (hn : n = l.length) (d : Int) :
    (w.setCell ⟨g, i * 7 + 5, none⟩ (.int .i64 d)).ownsRow base 27 7 (.slice (some ⟨g, 0, none⟩) n cap) n (kts (l.set i { l[i] with used := d })) := by
  obtain ⟨cur, hbase, hb, hl, hm, hs, ht⟩ := own_cur h
  subst hn
  refine ⟨by rw [kts_len, List.length_set], .inr ⟨g, cap, _, rfl, hbase, hb.set_ (i * 7 + 5) (.int .i64 d), hl, hm, by simpa using hs, ?_⟩⟩
  rw [Array.toList_setIfInBounds, List.take_set, ht, kts_setUsed l i d hi]
theorem St.setUsed {w0 w : World} {T base g gg cap : Nat} {v0 : Value} {l : List Kt} {u : Int} {i : Nat} (h : St w0 T base g v0 (.slice (some ⟨gg, 0, none⟩) l.length cap) l u w) (hT : T ≠ 27) (hi : i < l.length) (d : Int) :
    St w0 T base g v0 (.slice (some ⟨gg, 0, none⟩) l.length cap) (l.set i { l[i] with used := d }) u (w.setCell ⟨gg, i * 7 + 5, none⟩ (.int .i64 d)) := by
  have hne := h.ne hT
  refine ⟨⟨h.at_.hbase, h.at_.blk.far (p := ⟨gg, i * 7 + 5, none⟩) (by show g ≠ gg; rintro rfl; exact hne rfl) _, ?_⟩, h.only.setCell (p := ⟨gg, i * 7 + 5, none⟩) ?_ _, h.fresh⟩
  · rw [List.length_set]
    exact own_setUsed h.at_.own hi rfl d
  · rcases h.fresh gg rfl with x | x
    · exact .inl (.inr x)
    · exact .inr x

/-- What Get tells and leaves. -/
def GetP (T base g : Nat) (v : Value) (l : List Kt) (u e : Int) (a : ByteArray) (now : Int) (w : World) (en : Ending) (w' : World) : Prop :=
  (en = .returned (.tuple #[.string ⟨#[]⟩, .bool false]) ∧ St w T base g v v l u w' ∧ ∀ k, (h : k < l.length) → isM e a l[k] = true → l[k].exp ≤ now) ∨
  ∃ k, ∃ h : k < l.length, isM e a l[k] = true ∧ now < l[k].exp ∧ en = .returned (.tuple #[.string l[k].token, .bool true]) ∧ St w T base g v v (l.set k { l[k] with used := u + 1 }) (u + 1) w'

theorem one_below (w : World) (o1 : Obj) : Below w.heap.size w (w.alloc o1).drew := ((Below.refl _ _).alloc (Nat.le_refl _) _).drew

set_option maxRecDepth 100000 in
set_option maxHeartbeats 4000000 in
theorem get_any (base g : Nat) (v : Value) (l : List Kt) (u e : Int) (a : ByteArray) (now : Int) (w : World) (h : CacheAt w 46 base g v l u) (hu : 0 ≤ u ∧ u ≤ 1000) (hl : l.length ≤ 1000) (hq : Uniq l) :
    Calls Try.prog 12 #[.pointer (some ⟨g, 0, none⟩), .int .i64 e, .string a, .int .i64 now] w (GetP 46 base g v l u e a now w) := by
  have hg := h.blk.cell 0
  simp only [List.getElem?_toArray, List.getElem?_cons_zero] at hg
  have hlt := h.blk.lt
  obtain ⟨A, c, rfl⟩ := own_shape h.own
  have hA : 0 < l.length → ∃ gg, A = some ⟨gg, 0, none⟩ ∧ gg < (w.alloc (.cells #[.int .i64 e, .string a] 51)).drew.heap.size ∧ CellsAt (w.alloc (.cells #[.int .i64 e, .string a] 51)).drew gg l := by
    intro hpos
    rcases h.own.2 with ⟨_, h0⟩ | ⟨gg, cap, cur, hv, _⟩
    · omega
    · injection hv with hv
      subst hv
      have := own_only (F := fun _ => False) h.own (Only.of_below (one_below w (.cells #[.int .i64 e, .string a] 51))) (fun _ _ h => h)
      exact ⟨gg, rfl, (own_lt this rfl).2, cellsAt this⟩
  have IC := Lib.hid (index_any _ 33 _ _ (isP_pred w.heap.size e a) A l c (w.alloc (.cells #[.int .i64 e, .string a] 51)).drew (Blk.new w 51 _) (by omega) hA)
  have S0 := Lib.hid (St.refl h)
  have HQ := Lib.hid hq
  clear hA h hq
  go_enter Try.func12, Try.ntmps12
  go_upto_region 1 with fail
  go_cut [10] from 11 (fun q wx => ∃ r, q = .int .i64 r ∧ Idx (isM e a) l r ∧ St w 46 base g (.slice A l.length c) (.slice A l.length c) l u wx)
  case first =>
    go_region_with (first
      | (go_at_call 19; refine (is_any _ _ _).mono ?_; rintro e w2 ⟨rfl, rfl⟩)
      | (go_at_call 24; (with_reducible refine IC.out.mono ?_); rintro e w2 ⟨r, rfl, s1, s2⟩; have T1 := Lib.hid s1; have T2 := Lib.hid s2; clear s1 s2))
    all_goals (go_wp2_with fail)
    all_goals go_meet
    all_goals exact ⟨r, rfl, T1.out, S0.out.below ((one_below w _).trans (T2.out.mono (one_below w _).size))⟩
  case rest =>
    obtain ⟨r, rfl, hi, hs⟩ := hcut
    clear hg hlt S0 IC
    rcases hi with ⟨rfl, hn⟩ | ⟨k, rfl, hk, h1, _⟩
    · have HP : Hid (GetP 46 base g (.slice A l.length c) l u e a now w (.returned (.tuple #[.string ⟨#[]⟩, .bool false])) wc) := Lib.hid (.inl ⟨rfl, hs, fun k h hp => by rw [hn k h] at hp; cases hp⟩)
      clear hs hn
      go_wp2_with fail
      go_ret2
      exact HP.out
    · have hg := hs.at_.blk.cell 0
      simp only [List.getElem?_toArray, List.getElem?_cons_zero] at hg
      obtain ⟨gg, rfl⟩ : ∃ gg, A = some ⟨gg, 0, none⟩ := by
        rcases hs.at_.own.2 with ⟨_, h0⟩ | ⟨gg, cap, cur, hv, _⟩
        · omega
        · injection hv with hv; exact ⟨gg, hv⟩
      have hne := hs.ne (by decide)
      have hgg : gg ≠ g := by rintro rfl; exact hne rfl
      have hglt := (own_lt hs.at_.own rfl).2
      have hgl := hs.at_.blk.lt
      obtain ⟨x0, x1, x2, x3, x4, x5, x6⟩ := cellsAt hs.at_.own k hk
      have k0 : (0 : Int) ≤ (k : Int) := by omega
      have kn : ¬ (k : Int) < 0 := by omega
      have k1 : (k : Int) < (l.length : Int) := by omega
      by_cases hex : l[k].exp ≤ now
      · have HP : Hid (GetP 46 base g (.slice (some ⟨gg, 0, none⟩) l.length c) l u e a now w (.returned (.tuple #[.string ⟨#[]⟩, .bool false])) wc) := Lib.hid (.inl ⟨rfl, hs, fun j hj hp => by
          have e1 := (isM_iff e a _).1 h1
          have e2 := (isM_iff e a _).1 hp
          have := HQ.out j k hj hk (e2.1.trans e1.1.symm) (e2.2.trans e1.2.symm)
          subst this
          exact hex⟩)
        have OC : Hid (Calls Try.prog 25 #[.int .i64 now, .int .i64 l[k].exp] wc fun e w' => e = .returned (.bool true) ∧ w' = wc) := Lib.hid (by have := over_any now l[k].exp wc; rw [decide_eq_true hex] at this; exact this)
        clear hs h1 hex hne
        generalize l[k] = x at *
        go_wp2_with (go_at_call 25; (with_reducible refine OC.out.mono ?_); rintro e w ⟨rfl, rfl⟩)
        go_ret2
        exact HP.out
      · have OC : Hid (Calls Try.prog 25 #[.int .i64 now, .int .i64 l[k].exp] wc fun e w' => e = .returned (.bool false) ∧ w' = wc) := Lib.hid (by have := over_any now l[k].exp wc; rw [decide_eq_false hex] at this; exact this)
        have UC := Lib.hid (use_any g _ u wc.drew hs.at_.blk (by omega))
        have f5 : (wc.setCell ⟨g, 1, none⟩ (.int .i64 (u + 1))).drew.frozen? ⟨gg, k * 7 + 5, none⟩ = false ∧ wc.frozen? ⟨gg, k * 7 + 5, none⟩ = false := by
          obtain ⟨cur, _, hb, _⟩ := own_cur hs.at_.own
          exact ⟨(hb.far (p := ⟨g, 1, none⟩) hgg _).frozen _, hb.frozen _⟩
        have f5b := f5.2
        have S9 : Hid (St w 46 base g (.slice (some ⟨gg, 0, none⟩) l.length c) (.slice (some ⟨gg, 0, none⟩) l.length c) (l.set k { l[k] with used := u + 1 }) (u + 1) ((wc.setCell ⟨g, 1, none⟩ (.int .i64 (u + 1))).setCell ⟨gg, k * 7 + 5, none⟩ (.int .i64 (u + 1))).drew) := Lib.hid ((hs.use (by decide) (u + 1)).setUsed (by decide) hk (u + 1)).drew
        have HP : Hid (∀ wx, St w 46 base g (.slice (some ⟨gg, 0, none⟩) l.length c) (.slice (some ⟨gg, 0, none⟩) l.length c) (l.set k { l[k] with used := u + 1 }) (u + 1) wx → GetP 46 base g (.slice (some ⟨gg, 0, none⟩) l.length c) l u e a now w (.returned (.tuple #[.string l[k].token, .bool true])) wx) := Lib.hid fun wx hx => .inr ⟨k, hk, h1, by omega, rfl, hx⟩
        clear hs h1 hex hne f5
        generalize { l[k] with used := u + 1 } = x' at *
        generalize l[k] = x at *
        go_upto_region 4 with (go_at_call 25; (with_reducible refine OC.out.mono ?_); rintro e w ⟨rfl, rfl⟩)
        go_region_with (go_at_call 20; (with_reducible refine UC.out.mono ?_); rintro e w2 ⟨rfl, rfl⟩)
        all_goals (go_wp2_with fail)
        all_goals go_ret2
        all_goals exact HP.out _ S9.out
end Go.Proofs.Ytffmhejkhimkcaa
