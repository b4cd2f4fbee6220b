/- Fit, and the document's Fit: the walks. -/
import Derived.Test.YtcbfmpnkadkpdaaC15
set_option linter.unusedVariables false
namespace Go.Proofs.Ytcbfmpnkadkpdaa
open Go.RowKit

theorem strs_only {F : Nat → Prop} {w w' : World} {A : Option Addr} {ss : List ByteArray} (h : StrsAt w A ss) (hb : Only F w w') (hf : ∀ b o, A = some ⟨b, o, none⟩ → 0 < ss.length → ¬ F b) : StrsAt w' A ss := fun hp => by
  obtain ⟨b, o, hA, hlt, hc⟩ := h hp
  exact ⟨b, o, hA, Nat.lt_of_lt_of_le hlt hb.size, fun i hi => hb.cell (p := ⟨b, o + i, none⟩) (hc i hi) (hf b o hA hp)⟩
theorem ownEns_sub {w w' : World} {base base' : Nat} {A A' : Option Addr} {c c' : Nat} {M K : List En} (h : OwnEns w base A c M) (hk : K.Sublist M) (hb : base' ≤ base) (hr : w'.ownsRow base 28 5 (.slice A' K.length c') K.length (ens K)) (ho : Only (fun k => (Value.slice A M.length c).ownBlock = some k) w w') : OwnEns w' base' A' c' K :=
  ⟨own_weaken hr hb, fun x hx => own_weaken (own_only (h.sel x (hk.subset hx)) ho (fun k hk' hr' => own_types h.row (h.sel x (hk.subset hx)) (by decide) k hr' hk')) hb, h.apart.sublist hk⟩
def outP (ss : List ByteArray) (x : En) : Bool := !withinS x.sel ss
structure FitI (B : Nat) (A : Option Addr) (c : Nat) (ss : List ByteArray) (M : List En) (W : World) : Prop where
  blk : Blk W B 26 #[.slice A ss.length c]
  strs : StrsAt W A ss
  sel : ∀ x ∈ M, StrsAt W x.A x.sel
theorem FitI.below {B : Nat} {A : Option Addr} {c : Nat} {ss : List ByteArray} {M : List En} {W W' : World} (h : FitI B A c ss M W) (hb : Below W.heap.size W W') : FitI B A c ss M W' :=
  ⟨(hb.block B h.blk.lt).trans h.blk, h.strs.below hb, fun x hx => (h.sel x hx).below hb⟩
theorem out_any (B : Nat) (A : Option Addr) (c : Nat) (ss : List ByteArray) (x : En) (W : World) (hB : Blk W B 26 #[.slice A ss.length c]) (h : StrsAt W A ss) (hx : StrsAt W x.A x.sel) (hn : ss.length * 16 ≤ 140737488355328) (hn1 : x.sel.length * 16 ≤ 140737488355328) :
    Calls Try.prog 28 #[x.agg, .pointer (some ⟨B, 0, none⟩)] W fun en w' => en = .returned (.bool (outP ss x)) ∧ Below W.heap.size W w' := by
  have hb1 : Below W.heap.size W (W.alloc (.cells #[.int .i64 x.n, .string x.path, .string x.parent, .int .i64 x.ttl, .slice x.A x.sel.length x.c] 28)) := (Below.refl _ _).alloc (Nat.le_refl _) _
  have C := Lib.hid (within_any A c ss x.A x.c x.sel _ (h.below hb1) hn (hx.below hb1) hn1)
  have HB := Lib.hid hb1
  have c0 := hB.cell 0
  simp only [List.getElem?_toArray, List.getElem?_cons_zero] at c0
  have hlt := hB.lt
  clear h hB hx hb1
  go_enter Try.func28, Try.ntmps28
  go_wp2_with (go_at_call 29; (with_reducible refine C.out.mono ?_); rintro e w1 ⟨rfl, hb⟩; have HB2 := Lib.hid hb; clear hb)
  go_ret
  exact ⟨rfl, HB.out.trans (HB2.out.mono HB.out.size)⟩
theorem out_pred (B : Nat) (A : Option Addr) (c : Nat) (ss : List ByteArray) (M : List En) (hn : ss.length * 16 ≤ 140737488355328) (hz : ∀ x ∈ M, x.sel.length * 16 ≤ 140737488355328) : Pred (FitI B A c ss M) 28 #[.pointer (some ⟨B, 0, none⟩)] (outP ss) M :=
  ⟨fun W x hx h => out_any B A c ss x W h.blk h.strs (h.sel x hx) hn (hz x hx), fun W W' h hb => h.below hb, enters_of Try.func28 (by kernel_rfl) rfl⟩

def fitC (agent : ByteArray) (d : ByteArray → Option Nat) (l : List En) (ss : List ByteArray) : List En := (mayC agent d l).filter fun x => withinS x.sel ss
theorem kept_core (ss : List ByteArray) : ∀ M L : List En, M.map core = L.map core → (keptOf (outP ss) M).map core = (L.filter fun x => withinS x.sel ss).map core
  | [], [], _ => rfl
  | [], y :: L, h => by cases h
  | x :: M, [], h => by cases h
  | x :: M, y :: L, h => by
    simp only [List.map_cons, List.cons.injEq] at h
    have ih := kept_core ss M L h.2
    have hs := ((core_eq x y).1 h.1).2.2.2.2
    unfold keptOf at ih ⊢
    simp only [List.filter_cons, outP, hs, Bool.not_not]
    cases hw : withinS y.sel ss with
    | true => simp only [if_true, List.map_cons, h.1]; simpa [outP] using ih
    | false => simpa [outP] using ih
theorem core_mem {M L : List En} (h : M.map core = L.map core) {x : En} (hx : x ∈ M) : ∃ y ∈ L, core x = core y := by
  have : core x ∈ M.map core := List.mem_map_of_mem hx
  rw [h] at this
  obtain ⟨y, hy, e⟩ := List.mem_map.1 this
  exact ⟨y, hy, e.symm⟩
theorem mayC_mem {agent : ByteArray} {d : ByteArray → Option Nat} {l : List En} {x : En} (h : x ∈ mayC agent d l) : x ∈ l := (List.mem_filter.1 h).1
/-- The texts' lengths are those of the entries that came in. -/
theorem may_sizes {w : World} {A : Option Addr} {agent : ByteArray} {d : ByteArray → Option Nat} {l M : List En} (h : M.map core = (mayC agent d l).map core) (he : EnsAt w A l) : ∀ x ∈ M, x.sel.length * 16 ≤ 140737488355328 := fun x hx => by
  obtain ⟨y, hy, e⟩ := core_mem h hx
  have := (he.sel y (mayC_mem hy)).2.1
  rw [((core_eq x y).1 e).2.2.2.2]
  exact this

def FitP (agent : ByteArray) (l : List En) (ss : List ByteArray) (w : World) (e : Ending) (w' : World) : Prop :=
  ∃ A1 c1 M, e = .returned (.slice A1 M.length c1) ∧ OwnEns w' w.heap.size A1 c1 M ∧ M.map core = (fitC agent (wayD agent l) l ss).map core ∧ Below w.heap.size w w'

set_option maxHeartbeats 2000000 in
theorem fit_any (A : Option Addr) (c : Nat) (l : List En) (agent : ByteArray) (A2 : Option Addr) (c2 : Nat) (ss : List ByteArray) (w : World) (h : EnsAt w A l) (hn : l.length ≤ 100) (ha : agent.size ≤ maxLen) (hsz : ∀ e ∈ l, e.path.size ≤ maxLen ∧ e.parent.size ≤ maxLen) (h2 : StrsAt w A2 ss) (hn2 : ss.length * 16 ≤ 140737488355328) :
    Calls Try.prog 16 #[.slice A l.length c, .string agent, .slice A2 ss.length c2] w (FitP agent l ss w) := by
  have hb1 : Below w.heap.size w (w.alloc (.cells #[.slice A2 ss.length c2] 26)) := (Below.refl _ _).alloc (Nat.le_refl _) _
  have MY := Lib.hid (may_w A c l agent _ (h.below hb1) hn ha hsz)
  have BB : Hid (Blk (w.alloc (.cells #[.slice A2 ss.length c2] 26)) w.heap.size 26 #[.slice A2 ss.length c2]) := Lib.hid (Blk.new w 26 _)
  have SS := Lib.hid (h2.below hb1)
  have HB1 := Lib.hid hb1
  have HS : Hid ((w.alloc (.cells #[.slice A2 ss.length c2] 26)).heap.size = w.heap.size + 1) := Lib.hid (by rw [World.size_alloc])
  have HE := Lib.hid h
  have LL : Hid (∀ M : List En, M.map core = (mayC agent (wayD agent l) l).map core → M.length ≤ 1000000) := Lib.hid fun M hM => by
    have h1 := congrArg List.length hM
    rw [List.length_map, List.length_map] at h1
    have h2 := List.length_filter_le (isF agent (wayD agent l)) l
    unfold mayC at h1
    omega
  clear h h2 hb1
  go_enter Try.func16, Try.ntmps16
  go_upto_region 1 with fail
  generalize w.alloc (.cells #[.slice A2 ss.length c2] 26) = W1 at *
  go_wp2_with (first
    | (go_at_call 13; (with_reducible refine MY.out.mono ?_); rintro en w2 ⟨A3, c3, M, rfl, o3, m3, b3⟩; have O3 := Lib.hid o3; have M3 := Lib.hid m3; have B3 := Lib.hid b3; have SZ := Lib.hid (may_sizes m3 HE.out); have DL := Lib.hid (delete_any (FitI w.heap.size A2 c2 ss M) 28 #[.pointer (some ⟨w.heap.size, 0, none⟩)] (outP ss) M (out_pred w.heap.size A2 c2 ss M hn2 SZ.out) W1.heap.size (.slice A3 M.length c3) w2 ⟨(B3.out.block _ BB.out.lt).trans BB.out, SS.out.below B3.out, fun x hx => strs_at (O3.out.sel x hx) rfl⟩ (LL.out M m3) O3.out.row (fun A' c' e => by injection e with e1 e2 e3; subst e1; exact O3.out.ens SZ.out) (fun W g o vs hv hW => ?setI)); clear o3 m3 b3)
    | (go_at_call 27; (with_reducible refine DL.out.mono ?_); rintro en w4 ⟨v4, rfl, r4, on4, f4⟩; have R4 := Lib.hid r4; have ON4 := Lib.hid on4; have F4 := Lib.hid f4; clear r4 on4 f4))
  case setI =>
    have hg := (own_lt O3.out.row hv).1
    have ho : Only (fun k => k = g) W (W.setCells g o vs) := Only.setCells (F := fun k => k = g) (.inl rfl) _ _ _ (Only.refl _ _)
    refine ⟨Blk.setCells_far (by have := BB.out.lt; omega) vs o W hW.blk, strs_only hW.strs ho (fun b o' hA hp e => ?_), fun x hx => strs_only (hW.sel x hx) ho (fun b o' hA hp e => ?_)⟩
    · obtain ⟨b2, o2, hA2, hlt, _⟩ := SS.out hp
      rw [hA] at hA2
      injection hA2 with hA2
      injection hA2 with hb2
      have e' : b = g := e
      omega
    · have e' : b = g := e
      subst e'
      refine own_types O3.out.row (O3.out.sel x hx) (by decide) b hv ?_
      rw [hA]
      rfl
  obtain ⟨A4, c4, rfl⟩ := own_shape R4.out
  have OE := ownEns_sub O3.out (base' := w.heap.size) (K := keptOf (outP ss) M) (List.filter_sublist) (by have := HS.out; omega) R4.out ON4.out
  have HB4 := HB1.out.trans ((B3.out.mono HB1.out.size).trans (ON4.out.below (B := w.heap.size) (Nat.le_trans HB1.out.size B3.out.size) (fun k hk e => by have h1 := (own_lt O3.out.row e).1; have h2 := HS.out; omega)))
  go_ret
  exact ⟨A4, c4, keptOf (outP ss) M, rfl, OE, kept_core ss M _ M3.out, HB4⟩
end Go.Proofs.Ytcbfmpnkadkpdaa
