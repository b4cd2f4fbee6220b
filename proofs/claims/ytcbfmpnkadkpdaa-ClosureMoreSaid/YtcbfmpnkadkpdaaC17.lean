/- The document's Fit: the walk. -/
import Derived.Test.YtcbfmpnkadkpdaaC16
set_option linter.unusedVariables false
namespace Go.Proofs.Ytcbfmpnkadkpdaa
open Go.RowKit

def RFitP (agent : ByteArray) (l : List En) (ss : List ByteArray) (w : World) (e : Ending) (w' : World) : Prop :=
  ∃ A1 c1, e = .returned (.slice A1 (fitC agent (wayD agent l) l ss).length c1) ∧ w'.ownsRow w.heap.size 28 5 (.slice A1 (fitC agent (wayD agent l) l ss).length c1) (fitC agent (wayD agent l) l ss).length (ens (fitC agent (wayD agent l) l ss)) ∧ Below w.heap.size w w'

def inP (ss : List ByteArray) (x : En) : Bool := withinS x.sel ss

set_option maxRecDepth 100000 in
set_option maxHeartbeats 4000000 in
theorem refFit_any (A : Option Addr) (c : Nat) (l : List En) (agent : ByteArray) (A2 : Option Addr) (c2 : Nat) (ss : List ByteArray) (w : World) (h : EnsAt w A l) (hn : l.length ≤ 100) (h2 : StrsAt w A2 ss) (hn2 : ss.length * 16 ≤ 140737488355328) :
    Calls Try.prog 17 #[.slice A l.length c, .string agent, .slice A2 ss.length c2] w (RFitP agent l ss w) := by
  obtain ⟨i0, hi0, hz0, hz1, hz2⟩ := info_parts Try.info28
  have HE := Lib.hid h
  have HS2 := Lib.hid h2
  have FA := Lib.hid (refMay_any A c l agent w h hn)
  have FC : Hid (fitC agent (wayD agent l) l ss = (mayC agent (wayD agent l) l).filter (inP ss)) := Lib.hid rfl
  have ML : Hid (∀ x ∈ mayC agent (wayD agent l) l, x ∈ l) := Lib.hid fun x hx => mayC_mem hx
  have LM : (mayC agent (wayD agent l) l).length ≤ 100 := by
    have h2 := List.length_filter_le (isF agent (wayD agent l)) l
    unfold mayC
    omega
  clear h h2
  show Calls Try.prog 17 #[.slice A l.length c, .string agent, .slice A2 ss.length c2] w fun e w' => ∃ A1 c1, e = .returned (.slice A1 (fitC agent (wayD agent l) l ss).length c1) ∧ w'.ownsRow w.heap.size 28 5 (.slice A1 (fitC agent (wayD agent l) l ss).length c1) (fitC agent (wayD agent l) l ss).length (ens (fitC agent (wayD agent l) l ss)) ∧ Below w.heap.size w w'
  have FA2 : Hid (Calls Try.prog 15 #[.slice A l.length c, .string agent] w fun e w' => ∃ A1 c1, e = .returned (.slice A1 (mayC agent (wayD agent l) l).length c1) ∧ w'.ownsRow w.heap.size 28 5 (.slice A1 (mayC agent (wayD agent l) l).length c1) (mayC agent (wayD agent l) l).length (ens (mayC agent (wayD agent l) l)) ∧ Below w.heap.size w w') := Lib.hid FA.out
  rw [FC.out]
  clear FA FC
  generalize mayC agent (wayD agent l) l = M at *
  go_enter Try.func17, Try.ntmps17
  go_upto_region 3 with (go_at_call 15; (with_reducible refine FA2.out.mono ?_); rintro en w1 ⟨Am, cm, rfl, rm, hb1⟩; have RM := Lib.hid rm; have H1 := Lib.hid hb1; have hws := hb1.size; clear rm hb1)
  go_wp2_with fail
  obtain ⟨S, hS⟩ : ∃ S, S = w1.heap.size := ⟨_, rfl⟩
  have LS : Hid (S ≤ w1.heap.size) := Lib.hid (by omega)
  have LT : Hid (∀ kk, (Value.slice Am M.length cm).ownBlock = some kk → kk < S) := Lib.hid fun kk hkk => by have := (own_lt RM.out hkk).2; omega
  rw [← hS] at hws
  clear hS
  go_loopw [7, 9, 10] (fun ov q _ wr => ∃ (k : Nat) (A1 : Option Addr) (c1 : Nat), k ≤ M.length ∧ q = .int .i64 k ∧ ov = .slice A1 ((M.take k).filter (inP ss)).length c1 ∧ Hid (wr.ownsRow S 28 5 (.slice A1 ((M.take k).filter (inP ss)).length c1) ((M.take k).filter (inP ss)).length (ens ((M.take k).filter (inP ss)))) ∧ Hid (wr.ownsRow w.heap.size 28 5 (.slice Am M.length cm) M.length (ens M)) ∧ Hid (Below w.heap.size w wr) ∧ S ≤ wr.heap.size) (fun _ q _ _ => M.length - (intOf q).toNat)
  case atStart => exact ⟨0, none, 0, by omega, rfl, rfl, Lib.hid (World.ownsRow_nil _ _ _ _), RM, H1, LS.out⟩
  case round =>
    clear RM H1 LS
    obtain ⟨k, A1, c1, hk, rfl, rfl, ro, rm, hb, hsz⟩ := hrel
    by_cases hlt : k < M.length
    · have k0 : (0 : Int) ≤ (k : Int) := by omega
      have k1 : (k : Int) < (M.length : Int) := by omega
      obtain ⟨b', o, rfl, hbl, hce⟩ := (own_ens rm.out rfl (fun e he => (HE.out.below hb.out).sel e (ML.out e he))).at_ (by omega)
      obtain ⟨z0, z1, z2, z3, z4⟩ := hce k hlt
      have FSn := Lib.hid (filter_snoc (inP ss) M k hlt)
      have LK : ((M.take k).filter (inP ss)).length ≤ 100 := by
        have h2 := List.length_filter_le (inP ss) (M.take k)
        rw [List.length_take] at h2
        omega
      have sl := (HE.out.below hb.out).sel _ (ML.out _ (List.getElem_mem hlt))
      have WN := Lib.hid (within09_any A2 c2 ss M[k].A M[k].c M[k].sel wr (HS2.out.below hb.out) hn2 sl.1 sl.2.1)
      clear hce sl
      generalize M[k] = e at *
      cases hw : withinS e.sel ss with
      | false =>
        have E2 : Hid ((M.take (k + 1)).filter (inP ss) = (M.take k).filter (inP ss)) := Lib.hid (by
          rw [FSn.out, if_neg (by show ¬ withinS e.sel ss = true; rw [hw]; decide), List.append_nil])
        rw [hw] at WN
        clear hw FSn
        go_wp2_with (go_at_call 30; (with_reducible refine WN.out.mono ?_); rintro en w2 ⟨rfl, rfl⟩)
        go_roundw
        case rel => exact ⟨k + 1, A1, c1, by omega, by go_num, by rw [E2.out], by rw [E2.out]; exact ro, rm, hb, hsz⟩
        case measure => simp [intOf]; omega
      | true =>
        have E2 : Hid ((M.take (k + 1)).filter (inP ss) = (M.take k).filter (inP ss) ++ [e]) := Lib.hid (by
          rw [FSn.out, if_pos (by show withinS e.sel ss = true; exact hw)])
        rw [hw] at WN
        clear hw FSn
        generalize (M.take k).filter (inP ss) = K at *
        go_wp2_with (first
          | (go_at_call 30; (with_reducible refine WN.out.mono ?_); rintro en w2 ⟨rfl, rfl⟩)
          | (at_builtin; refine wpList_append_own _ rfl (.tmp 28) (.tmp 33) 22 rfl S 28 i0 _ 5 72 Try.underlying22 hi0 hz0 hz1 hz2 rfl (by omega) _ K.length (ens K) rfl (ro.out.alloc _) ⟨w2.heap.size, 0, none⟩ 1 1 [.int .i64 e.n, .string e.path, .string e.parent, .int .i64 e.ttl, .slice e.A e.sel.length e.c] rfl rfl ?c1 ?c2 ?c3 ?c4 ?c5 ?_))
        case c1 => exact World.news_of_block (cs := #[.int .i64 e.n, .string e.path, .string e.parent, .int .i64 e.ttl, .slice e.A e.sel.length e.c]) (t := 28) (fr := (0, 0)) (heap_alloc_new w2 _)
        case c2 => simp [Value.oneCell']
        case c3 => unfold maxLen; omega
        case c4 => omega
        case c5 => first | omega | (rw [World.size_alloc]; omega)
        intro v' V5 hown5 hgrow5 _
        obtain ⟨A5, c5, rfl⟩ := own_shape hown5
        have hro : ∀ kk, (Value.slice A1 K.length c1).ownBlock = some kk → S ≤ kk := fun kk hkk => (own_lt ro.out hkk).1
        have HB5 : Hid (Below w.heap.size w V5) := Lib.hid ((hb.out.alloc hb.out.size _).grown hgrow5 (by rw [World.size_alloc]; have := hb.out.size; omega) (fun kk hkk => by have := hro kk hkk; omega))
        have RM5 : Hid (V5.ownsRow w.heap.size 28 5 (.slice (some ⟨b', o, none⟩) M.length cm) M.length (ens M)) := Lib.hid (own_only (F := fun kk => (Value.slice A1 K.length c1).ownBlock = some kk) (rm.out.alloc _) ((Only.refl _ _).grown hgrow5 (fun kk hkk => .inl hkk)) (fun kk hkk e => by have h1 := hro _ e; have h2 := LT.out kk hkk; omega))
        have el : (K ++ [e]).length = K.length + 1 := by rw [List.length_append, List.length_singleton]
        have RO5 : Hid (V5.ownsRow S 28 5 (.slice A5 ((M.take (k + 1)).filter (inP ss)).length c5) ((M.take (k + 1)).filter (inP ss)).length (ens ((M.take (k + 1)).filter (inP ss)))) := Lib.hid (by rw [E2.out, el, ens_append, ens_one]; exact hown5)
        have hs5 : S ≤ V5.heap.size := by have := hgrow5.size; rw [World.size_alloc] at this; omega
        have el2 : K.length + 1 = ((M.take (k + 1)).filter (inP ss)).length := by rw [E2.out, el]
        rw [el2]
        clear hown5 hgrow5 el hro el2
        go_wp2_with fail
        go_roundw
        case rel => exact ⟨k + 1, A5, c5, by omega, by go_num, rfl, RO5, RM5, HB5, hs5⟩
        case measure => simp [intOf]; omega
    · have k1 : ¬ (k : Int) < (M.length : Int) := by omega
      rw [List.take_of_length_le (by omega : M.length ≤ k)] at *
      go_wp2_with fail
      go_ret
      exact ⟨A1, c1, rfl, own_weaken ro.out (by omega), hb.out⟩
end Go.Proofs.Ytcbfmpnkadkpdaa
