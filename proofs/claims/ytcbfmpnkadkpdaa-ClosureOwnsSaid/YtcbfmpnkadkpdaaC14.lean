/- The document's Chain: the walk. -/
import Derived.Test.YtcbfmpnkadkpdaaC13
import Derived.Test.YtcbfmpnkadkpdaaC8
set_option linter.unusedVariables false
namespace Go.Proofs.Ytcbfmpnkadkpdaa
open Go.RowKit

/-- Where the first one is, from k on, of which p holds. -/
def IdxF (p : En → Bool) (l : List En) (k : Nat) (r : Int) : Prop :=
  (r = -1 ∧ ∀ j, (h : j < l.length) → k ≤ j → p l[j] = false) ∨ ∃ i : Nat, r = i ∧ ∃ h : i < l.length, p l[i] = true ∧ ∀ j, (hj : j < i) → k ≤ j → p (l[j]'(Nat.lt_trans hj h)) = false
theorem idxF_end (p : En → Bool) (l : List En) : IdxF p l l.length (-1) := .inl ⟨rfl, fun j h hk => by omega⟩
theorem idxF_hit {p : En → Bool} {l : List En} {k : Nat} {r : Int} (h : IdxF p l (k + 1) r) (hk : k < l.length) (hp : p l[k] = true) : IdxF p l k k :=
  .inr ⟨k, rfl, hk, hp, fun j hj h => by omega⟩
theorem idxF_miss {p : En → Bool} {l : List En} {k : Nat} {r : Int} (h : IdxF p l (k + 1) r) (hk : k < l.length) (hp : p l[k] = false) : IdxF p l k r := by
  rcases h with ⟨rfl, h⟩ | ⟨i, rfl, hi, h1, h2⟩
  · refine .inl ⟨rfl, fun j hj hkj => ?_⟩
    by_cases c : j = k
    · subst c; exact hp
    · exact h j hj (by omega)
  · refine .inr ⟨i, rfl, hi, h1, fun j hj hkj => ?_⟩
    by_cases c : j = k
    · subst c; exact hp
    · exact h2 j hj (by omega)
theorem idxF_all {p : En → Bool} {l : List En} {r : Int} (h : IdxF p l 0 r) : Idx p l r := by
  rcases h with ⟨rfl, h⟩ | ⟨i, rfl, hi, h1, h2⟩
  · exact .inl ⟨rfl, fun j hj => h j hj (by omega)⟩
  · exact .inr ⟨i, rfl, hi, h1, fun j hj => h2 j hj (by omega)⟩
theorem isNext_true {agent : ByteArray} {d : ByteArray → Option Nat} {l : List En} (h : Done agent l d) {q i left : Nat} (hq : q < l.length) (hi : i < l.length) (hl : 1 ≤ left) (hp : l[q].path = l[i].parent) (hf : farN agent d l q = left) : isNext agent d left (parI l i) l[q] = true :=
  decide_eq_true ⟨(farN_some h hq left (by omega)).1 hf, by rw [hp, parI, dif_pos hi]⟩
theorem isNext_path {agent : ByteArray} {d : ByteArray → Option Nat} {l : List En} {q i left : Nat} (hq : q < l.length) (hi : i < l.length) (hp : ¬ l[q].path = l[i].parent) : isNext agent d left (parI l i) l[q] = false :=
  decide_eq_false fun h => hp (by rw [h.2, parI, dif_pos hi])
theorem isNext_far {agent : ByteArray} {d : ByteArray → Option Nat} {l : List En} (h : Done agent l d) {q i left : Nat} (hq : q < l.length) (hl : 1 ≤ left) (hf : ¬ farN agent d l q = left) : isNext agent d left (parI l i) l[q] = false :=
  decide_eq_false fun e => hf ((farN_some h hq left (by omega)).2 e.1)

set_option maxRecDepth 100000 in
set_option maxHeartbeats 4000000 in
theorem refChain_any (A : Option Addr) (c : Nat) (l : List En) (n : Int) (agent : ByteArray) (w : World) (h : EnsAt w A l) (hn : l.length ≤ 100) :
    Calls Try.prog 11 #[.slice A l.length c, .int .i64 n, .string agent] w (ChainP agent l n w) := by
  obtain ⟨i0, hi0, hz0, hz1, hz2⟩ := info_parts Try.info3
  have HE := Lib.hid h
  have FA := Lib.hid (fars_any A c l agent (wayD agent l) w h hn (wayD_done agent l))
  have CL : Hid (chainL agent (wayD agent l) l n = if farN agent (wayD agent l) l (l.findIdx (isN n)) = 0 then [] else chainFrom agent (wayD agent l) l (farN agent (wayD agent l) l (l.findIdx (isN n))) (l.findIdx (isN n))) := Lib.hid rfl
  clear h
  go_enter Try.func11, Try.ntmps11
  go_upto_region 2 with (go_at_call 24; (with_reducible refine FA.out.mono ?_); rintro en w1 ⟨rr, rfl, gr, rw1, hb1⟩; have RW := Lib.hid rw1; have H1 := Lib.hid hb1; have hrl := rw1.lt; have hws := hb1.size; clear rw1 hb1)
  have wm : IntKind.i64.wrap ((l.length : Int) - 1) = (l.length : Int) - 1 := IntWalk.i64_in _ (by omega)
  go_wp2_with fail
  clear wm
  go_loopw [8, 9] (fun av q wr => ∃ (k : Nat) (r : Int), k ≤ l.length ∧ q = .int .i64 ((k : Int) - 1) ∧ av = .int .i64 r ∧ Hid (IdxF (isN n) l k r) ∧ wr = w1) (fun _ q _ => (intOf q + 1).toNat)
  case atStart => exact ⟨l.length, -1, Nat.le_refl _, rfl, rfl, Lib.hid (idxF_end _ _), rfl⟩
  case round =>
    obtain ⟨k, r, hk, rfl, rfl, hx, rfl⟩ := hrel
    by_cases hk0 : 0 < k
    · obtain ⟨j, rfl⟩ : ∃ j, k = j + 1 := ⟨k - 1, by omega⟩
      have ej : ((j + 1 : Nat) : Int) - 1 = (j : Int) := by omega
      rw [ej]
      have hlt : j < l.length := by omega
      have k0 : (0 : Int) ≤ (j : Int) := by omega
      have k1 : (j : Int) < (l.length : Int) := by omega
      have wj : IntKind.i64.wrap ((j : Int) - 1) = (j : Int) - 1 := IntWalk.i64_in _ (by omega)
      obtain ⟨b', o, rfl, hbl, hce⟩ := (HE.out.below H1.out).at_ (by omega)
      have z0 := (hce j hlt).1
      clear hce ej
      by_cases hp : l[j].n = n
      · have HX := Lib.hid (idxF_hit hx.out hlt (decide_eq_true hp))
        have e1 : (l[j].n == n) = true := by simpa using hp
        clear hp hx
        generalize l[j] = e at *
        go_wp2_with fail
        go_roundw
        case rel => exact ⟨j, j, by omega, rfl, rfl, HX, trivial⟩
        case measure => simp [intOf]
      · have HX := Lib.hid (idxF_miss hx.out hlt (decide_eq_false hp))
        have e1 : (l[j].n == n) = false := by simpa using hp
        clear hp hx
        generalize l[j] = e at *
        go_wp2_with fail
        go_roundw
        case rel => exact ⟨j, r, by omega, rfl, rfl, HX, trivial⟩
        case measure => simp [intOf]
    · have hk00 : k = 0 := by omega
      subst hk00
      have IX := Lib.hid (idxF_all hx.out)
      have k1 : ¬ (((0 : Nat) : Int) - 1) ≥ 0 := by omega
      clear hx
      rcases idx_or IX.out with ⟨rfl, hno⟩ | ⟨hat, rfl⟩
      · have HC : Hid (chainL agent (wayD agent l) l n = []) := Lib.hid (by unfold chainL; rw [if_pos (farN_out hno)])
        clear hno
        go_wp2_with fail
        go_ret
        refine ⟨none, 0, ?_⟩
        rw [HC.out]
        exact ⟨rfl, World.ownsRow_nil _ _ _ _, H1.out⟩
      · have CL0 := Lib.hid CL.out
        clear IX CL
        generalize l.findIdx (isN n) = at0 at *
        have k2 : ¬ (at0 : Int) < 0 := by omega
        have k3 : (0 : Int) ≤ (at0 : Int) := by omega
        have k4 : (at0 : Int) < (l.length : Int) := by omega
        have xa := RW.out.cell (i := at0) hat
        by_cases hz : farN agent (wayD agent l) l at0 = 0
        · have e1 : (((farN agent (wayD agent l) l at0 : Nat) : Int) == 0) = true := by rw [hz]; rfl
          have HC : Hid (chainL agent (wayD agent l) l n = []) := Lib.hid (by rw [CL0.out, if_pos hz])
          clear hz
          go_wp2_with fail
          go_ret
          refine ⟨none, 0, ?_⟩
          rw [HC.out]
          exact ⟨rfl, World.ownsRow_nil _ _ _ _, H1.out⟩
        · have e1 : (((farN agent (wayD agent l) l at0 : Nat) : Int) == 0) = false := by simp; omega
          have C0 : Hid ([] ++ chainFrom agent (wayD agent l) l (farN agent (wayD agent l) l at0) at0 = chainL agent (wayD agent l) l n) := Lib.hid (by rw [CL0.out, if_neg hz]; rfl)
          have hfl := farN_le (wayD_done agent l) at0
          have hle : 1 ≤ farN agent (wayD agent l) l at0 := by omega
          obtain ⟨left0, hl0⟩ : ∃ left0, farN agent (wayD agent l) l at0 = left0 := ⟨_, rfl⟩
          have F0 := Lib.hid hl0
          rw [hl0] at C0 hfl hle e1 xa
          have wx : Hid (Below wr.heap.size wr (wr.alloc (.cells #[.int .i64 at0] 3))) := Lib.hid ((Below.refl _ _).alloc (Nat.le_refl _) _)
          have R0 : Hid ((wr.alloc (.cells #[.int .i64 at0] 3)).ownsRow wr.heap.size 3 1 (.slice (some ⟨wr.heap.size, 0, none⟩) (([] : List Nat).length + 1) 1) (([] : List Nat).length + 1) (idxs ([] ++ [at0]))) := Lib.hid ⟨rfl, .inr ⟨wr.heap.size, 1, #[.int .i64 at0], rfl, Nat.le_refl _, Blk.new wr 3 _, Nat.le_refl _, by unfold maxLen; omega, rfl, rfl⟩⟩
          have RW0 : Hid (Row (wr.alloc (.cells #[.int .i64 at0] 3)) rr 3 .i64 l.length (fun i => (farN agent (wayD agent l) l i : Int))) := Lib.hid (RW.out.alloc _)
          have H8 : Hid (Below w.heap.size w (wr.alloc (.cells #[.int .i64 at0] 3))) := Lib.hid (H1.out.alloc H1.out.size _)
          clear CL0 hl0 hz
          go_upto_block 6 with fail
          clear xa e1 RW H1 wx
          generalize wr.alloc (.cells #[.int .i64 at0] 3) = V0 at *
          have hrl2 : rr < wr.heap.size := hrl
          generalize wr.heap.size = S at *
          go_wp2_with fail
          go_loopg [8, 10, 11, 12] left0 (fun gg av ov _ _ wr => ∃ (left i : Nat) (pre : List Nat) (A1 : Option Addr) (c1 : Nat), av = .int .i64 i ∧ ov = .slice A1 (pre.length + 1) c1 ∧ left ≤ gg ∧ left ≤ l.length + 1 ∧ 1 ≤ left ∧ pre.length + left ≤ left0 ∧ i < l.length ∧ Hid (farN agent (wayD agent l) l i = left) ∧ Hid (pre ++ chainFrom agent (wayD agent l) l left i = chainL agent (wayD agent l) l n) ∧ Hid (wr.ownsRow S 3 1 (.slice A1 (pre.length + 1) c1) (pre.length + 1) (idxs (pre ++ [i]))) ∧ Hid (Row wr rr 3 .i64 l.length (fun i => (farN agent (wayD agent l) l i : Int))) ∧ Hid (Below w.heap.size w wr))
          case atStart => exact ⟨left0, at0, [], _, _, rfl, rfl, by omega, by omega, by omega, by simp, hat, F0, C0, R0, RW0, H8⟩
          case round =>
            clear F0 C0 R0 RW0 H8
            obtain ⟨left, i, pre, A1, c1, rfl, rfl, hgg, hl1, hl2, hpl, hi, fr, ch, ro, rw2, hb⟩ := hrel
            have iz0 : (0 : Int) ≤ (i : Int) := by omega
            have i1 : (i : Int) < (l.length : Int) := by omega
            have xi := rw2.out.cell (i := i) hi
            rw [fr.out] at xi
            by_cases hone : left = 1
            · subst hone
              have HC : Hid (chainL agent (wayD agent l) l n = pre ++ [i]) := Lib.hid ch.out.symm
              go_wp2_with fail
              go_ret
              refine ⟨A1, c1, ?_⟩
              rw [HC.out, List.length_append, List.length_singleton]
              exact ⟨rfl, own_weaken ro.out (by omega), hb.out⟩
            · have hgt : (left : Int) > 1 := by omega
              obtain ⟨k, rfl⟩ : ∃ k, left = k + 1 := ⟨left - 1, by omega⟩
              have ek : ((k + 1 : Nat) : Int) = (k : Int) + 1 := by omega
              rw [ek] at xi hgt
              have ek2 : (k : Int) + 1 - 1 = (k : Int) := by omega
              have wk : IntKind.i64.wrap ((k : Int) + 1 - 1) = (k : Int) := by rw [ek2]; exact IntWalk.i64_in _ (by omega)
              have wm : IntKind.i64.wrap ((l.length : Int) - 1) = (l.length : Int) - 1 := IntWalk.i64_in _ (by omega)
              have hk1 : 1 ≤ k := by omega
              have st := (farN_some (wayD_done agent l) hi (k + 1) (by omega)).1 fr.out
              have hnl := next_lt (wayD_done agent l) hi hk1 st
              have hni := (next_is hnl).1
              have NF : Hid (farN agent (wayD agent l) l (nextI agent (wayD agent l) l k i) = k) := Lib.hid ((farN_some (wayD_done agent l) hnl k (by omega)).2 hni)
              have CH : Hid ((pre ++ [i]) ++ chainFrom agent (wayD agent l) l k (nextI agent (wayD agent l) l k i) = chainL agent (wayD agent l) l n) := Lib.hid (by rw [← ch.out, chainFrom_more _ _ _ _ _ hk1, List.append_assoc]; rfl)
              have RS : Hid (∀ r, Idx (isNext agent (wayD agent l) k (parI l i)) l r → r = ((nextI agent (wayD agent l) l k i : Nat) : Int)) := Lib.hid fun r h => idx_some h hnl
              have FI := Lib.hid fr.out
              clear st hni fr ch
              generalize nextI agent (wayD agent l) l k i = i2 at *
              go_wp2_with fail
              clear wm
              go_loopw [11, 12] (fun nv q wy => ∃ (t : Nat) (r : Int), t ≤ l.length ∧ q = .int .i64 ((t : Int) - 1) ∧ nv = .int .i64 r ∧ Hid (IdxF (isNext agent (wayD agent l) k (parI l i)) l t r) ∧ Hid (Dr wr wy)) (fun _ q _ => (intOf q + 1).toNat)
              case atStart => exact ⟨l.length, -1, Nat.le_refl _, rfl, rfl, Lib.hid (idxF_end _ _), Lib.hid ⟨0, rfl⟩⟩
              case round =>
                obtain ⟨t, r, ht, rfl, rfl, hx, dr⟩ := hrel
                have HBy : Hid (Below w.heap.size w wr) := Lib.hid (by obtain ⟨nn, e⟩ := dr.out; rw [e]; exact below_n hb.out nn)
                have RWy : Hid (Row wr rr 3 .i64 l.length (fun i => (farN agent (wayD agent l) l i : Int))) := Lib.hid (by obtain ⟨nn, e⟩ := dr.out; rw [e]; exact rw2.out.drewN nn)
                by_cases ht0 : 0 < t
                · obtain ⟨j, rfl⟩ : ∃ j, t = j + 1 := ⟨t - 1, by omega⟩
                  have ej : ((j + 1 : Nat) : Int) - 1 = (j : Int) := by omega
                  rw [ej]
                  have hlt : j < l.length := by omega
                  have j0 : (0 : Int) ≤ (j : Int) := by omega
                  have j1 : (j : Int) < (l.length : Int) := by omega
                  have wj : IntKind.i64.wrap ((j : Int) - 1) = (j : Int) - 1 := IntWalk.i64_in _ (by omega)
                  obtain ⟨b', o, rfl, hbl, hce⟩ := (HE.out.below HBy.out).at_ (by omega)
                  have zj := (hce j hlt).2.1
                  have zi := (hce i hi).2.2.1
                  have xj := RWy.out.cell (i := j) hlt
                  have xi' := RWy.out.cell (i := i) hi
                  rw [FI.out, ek] at xi'
                  clear hce ej xi
                  have NT := Lib.hid (fun hp hf => isNext_true (wayD_done agent l) hlt hi hk1 hp hf)
                  have NP := Lib.hid (fun hp => isNext_path (agent := agent) (d := wayD agent l) (left := k) hlt hi hp)
                  have NR := Lib.hid (fun hf => isNext_far (i := i) (wayD_done agent l) hlt hk1 hf)
                  have XH := Lib.hid (fun h => idxF_hit hx.out hlt h)
                  have XM := Lib.hid (fun h => idxF_miss hx.out hlt h)
                  by_cases hp : l[j].path = l[i].parent
                  · have e1 := teq_true hp
                    by_cases hf : farN agent (wayD agent l) l j = k
                    · have HX := Lib.hid (XH.out (NT.out hp hf))
                      have e2 : (((farN agent (wayD agent l) l j : Nat) : Int) == (k : Int)) = true := by rw [hf]; exact beq_self_eq_true _
                      clear hp hf NT NP NR XH XM hx
                      generalize l[j].path = pj at *
                      generalize l[i].parent = qi at *
                      go_wp2_with fail
                      go_quiet (fail)
                      go_wp2_with fail
                      go_roundw
                      case rel => exact ⟨j, j, by omega, rfl, rfl, HX, Lib.hid (dr.out.more _)⟩
                      case measure => simp [intOf]
                    · have HX := Lib.hid (XM.out (NR.out hf))
                      have e2 : (((farN agent (wayD agent l) l j : Nat) : Int) == (k : Int)) = false := by simp; omega
                      clear hp hf NT NP NR XH XM hx
                      generalize l[j].path = pj at *
                      generalize l[i].parent = qi at *
                      go_wp2_with fail
                      go_quiet (fail)
                      go_wp2_with fail
                      go_roundw
                      case rel => exact ⟨j, r, by omega, rfl, rfl, HX, Lib.hid (dr.out.more _)⟩
                      case measure => simp [intOf]
                  · have e1 := teq_false hp
                    have HX := Lib.hid (XM.out (NP.out hp))
                    clear hp NT NP NR XH XM hx
                    generalize l[j].path = pj at *
                    generalize l[i].parent = qi at *
                    go_wp2_with fail
                    go_quiet (fail)
                    go_wp2_with fail
                    go_roundw
                    case rel => exact ⟨j, r, by omega, rfl, rfl, HX, Lib.hid (dr.out.more _)⟩
                    case measure => simp [intOf]
                · have ht00 : t = 0 := by omega
                  subst ht00
                  have k9 : ¬ (((0 : Nat) : Int) - 1) ≥ 0 := by omega
                  obtain rfl := RS.out r (idxF_all hx.out)
                  have k8 : ¬ ((i2 : Int) < 0) := by omega
                  have ROy : Hid (wr.ownsRow S 3 1 (.slice A1 (pre.length + 1) c1) (pre.length + 1) (idxs (pre ++ [i]))) := Lib.hid (by obtain ⟨nn, e⟩ := dr.out; rw [e]; exact own_only (F := fun _ => False) ro.out ((Only.refl _ _).drewN nn) (fun _ _ h => h))
                  clear hx RS xi
                  go_wp2_with (at_builtin; refine wpList_append_own _ rfl (.tmp 81) (.tmp 83) 24 rfl S 3 i0 _ 1 8 Try.underlying24 hi0 hz0 hz1 hz2 rfl (by omega) _ (pre.length + 1) (idxs (pre ++ [i])) rfl (ROy.out.alloc _) ⟨wr.heap.size, 0, none⟩ 1 1 [.int .i64 i2] rfl rfl ?c1 ?c2 ?c3 ?c4 ?c5 ?_)
                  case c2 => simp [Value.oneCell']
                  case c3 => unfold maxLen; omega
                  case c4 => omega
                  case c5 => have := own_size ROy.out (Nat.succ_pos _); first | omega | (rw [World.size_alloc]; omega)
                  intro v' V5 hown5 hgrow5 _
                  obtain ⟨A5, c5, rfl⟩ := own_shape hown5
                  have hro : ∀ kk, (Value.slice A1 (pre.length + 1) c1).ownBlock = some kk → S ≤ kk := fun kk hkk => (own_lt ROy.out hkk).1
                  have HB5 : Hid (Below w.heap.size w V5) := Lib.hid ((HBy.out.alloc HBy.out.size _).grown hgrow5 (by rw [World.size_alloc]; have := HBy.out.size; omega) (fun kk hkk => by have := hro kk hkk; omega))
                  have RW5 : Hid (Row V5 rr 3 .i64 l.length (fun i => (farN agent (wayD agent l) l i : Int))) := Lib.hid (Row.only (F := fun kk => (Value.slice A1 (pre.length + 1) c1).ownBlock = some kk) (RWy.out.alloc _) ((Only.refl _ _).grown hgrow5 (fun kk hkk => .inl hkk)) (fun e => by have := hro _ e; omega))
                  have el : (pre ++ [i]).length + 1 = pre.length + 1 + 1 := by rw [List.length_append, List.length_singleton]
                  have RO5 : Hid (V5.ownsRow S 3 1 (.slice A5 ((pre ++ [i]).length + 1) c5) ((pre ++ [i]).length + 1) (idxs ((pre ++ [i]) ++ [i2]))) := Lib.hid (by rw [el, idxs_snoc]; exact hown5)
                  rw [← el]
                  clear hown5 hgrow5 el hro
                  go_wp2_with fail
                  go_roundg k
                  case measure => omega
                  case rel => exact ⟨k, i2, pre ++ [i], A5, c5, rfl, rfl, by omega, by omega, hk1, by rw [List.length_append, List.length_singleton]; omega, hnl, NF, CH, RO5, RW5, HB5⟩
end Go.Proofs.Ytcbfmpnkadkpdaa
