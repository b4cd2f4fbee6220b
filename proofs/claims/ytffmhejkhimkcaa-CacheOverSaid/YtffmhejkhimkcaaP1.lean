/- A cache, and the document's, side by side. -/
import Derived.Test.YtffmhejkhimkcaaE2
import Derived.Test.YtffmhejkhimkcaaE6
import Derived.Test.YtffmhejkhimkcaaE7
import Derived.Test.YtffmhejkhimkcaaC9
import Derived.Test.YtffmhejkhimkcaaA2
set_option linter.unusedVariables false
namespace Go.Proofs.Ytffmhejkhimkcaa
open Go.RowKit

structure Pair (S gc gr : Nat) (vc vr : Value) (Lc Lr : List Kt) (uc ur : Int) (w : World) : Prop where
  c : CacheAt w 46 S gc vc Lc uc
  r : CacheAt w 36 S gr vr Lr ur
  apart : ∀ k, foot gc vc k → ¬ foot gr vr k
  base : S ≤ w.heap.size

theorem CacheAt.foot_lt {w : World} {T base g : Nat} {v : Value} {l : List Kt} {u : Int} (h : CacheAt w T base g v l u) (k : Nat) (hk : foot g v k) : base ≤ k ∧ k < w.heap.size := by
  rcases hk with rfl | hk
  · exact ⟨h.hbase, h.blk.lt⟩
  · exact own_lt h.own hk

section
variable {S gc gr : Nat} {vc vr v' : Value} {Lc Lr L' : List Kt} {uc ur u' : Int} {w w' : World}
theorem Pair.onC (h : Pair S gc gr vc vr Lc Lr uc ur w) (s : St w 46 S gc vc v' L' u' w') : Pair S gc gr v' vr L' Lr u' ur w' :=
  ⟨s.at_, h.r.only s.only (fun k hk hf => h.apart k hf hk), fun k hk hr => by
    rcases hk with rfl | hk
    · exact h.apart _ (.inl rfl) hr
    · rcases s.fresh k hk with x | x
      · exact h.apart k (.inr x) hr
      · have := (h.r.foot_lt k hr).2
        omega, Nat.le_trans h.base s.only.size⟩
theorem Pair.onR (h : Pair S gc gr vc vr Lc Lr uc ur w) (s : St w 36 S gr vr v' L' u' w') : Pair S gc gr vc v' Lc L' uc u' w' :=
  ⟨h.c.only s.only (fun k hk hf => h.apart k hk hf), s.at_, fun k hk hr => by
    rcases hr with rfl | hr
    · exact h.apart _ hk (.inl rfl)
    · rcases s.fresh k hr with x | x
      · exact h.apart k hk (.inr x)
      · have := (h.c.foot_lt k hk).2
        omega, Nat.le_trans h.base s.only.size⟩
theorem Pair.below (h : Pair S gc gr vc vr Lc Lr uc ur w) (hb : Below w.heap.size w w') : Pair S gc gr vc vr Lc Lr uc ur w' :=
  ⟨h.c.only (F := fun _ => False) (Only.of_below hb) (fun _ _ x => x), h.r.only (F := fun _ => False) (Only.of_below hb) (fun _ _ x => x), h.apart, Nat.le_trans h.base hb.size⟩
theorem Pair.toC (h : Pair S gc gr vc vr Lc Lr uc ur w) (s : St w 46 S gc vc v' L' u' w') : Below S w w' := s.to_below h.c (Nat.le_refl _) h.base
theorem Pair.toR (h : Pair S gc gr vc vr Lc Lr uc ur w) (s : St w 36 S gr vr v' L' u' w') : Below S w w' := s.to_below h.r (Nat.le_refl _) h.base
end

def AllOk (l : List Kt) : Prop := ∀ x ∈ l, x.ok
/-- One that was put, but for its use. -/
def Like (x y : Kt) : Prop := x.entry = y.entry ∧ x.aud = y.aud ∧ x.token = y.token ∧ x.exp = y.exp ∧ x.iat = y.iat
theorem putL_like (l : List Kt) (u : Int) (k : Kt) (h : WF l u) : ∀ x ∈ putL l u k, (∃ y ∈ l, Like x y) ∨ Like x k := by
  obtain ⟨B, e, _, hsub, _⟩ := putL_shape l u k h
  intro x hx
  rw [e] at hx
  rcases List.mem_append.1 hx with hx | hx
  · exact .inl ⟨x, hsub.subset hx, rfl, rfl, rfl, rfl, rfl⟩
  · rw [List.mem_singleton.1 hx]
    exact .inr ⟨rfl, rfl, rfl, rfl, rfl⟩
theorem set_like (l : List Kt) (k : Nat) (hk : k < l.length) (d : Int) : ∀ x ∈ l.set k { l[k] with used := d }, ∃ y ∈ l, Like x y := by
  intro x hx
  rcases List.mem_or_eq_of_mem_set hx with hx | hx
  · exact ⟨x, hx, rfl, rfl, rfl, rfl, rfl⟩
  · exact ⟨l[k], List.getElem_mem hk, by rw [hx]; exact ⟨rfl, rfl, rfl, rfl, rfl⟩⟩
theorem kept_wf (p : Kt → Bool) (l : List Kt) (u : Int) (h : WF l u) : WF (keptOf p l) u :=
  ⟨h.ones.sublist (kept_sub p l), Nat.le_trans (kept_le p l) h.few, fun x hx => h.used x ((kept_sub p l).subset hx)⟩
theorem ok_putL (l : List Kt) (u : Int) (k : Kt) (h : WF l u) (ho : AllOk l) (hk : k.ok) (hu : I64 (u + 1)) : AllOk (putL l u k) := by
  obtain ⟨B, e, _, hsub, _⟩ := putL_shape l u k h
  intro x hx
  rw [e] at hx
  rcases List.mem_append.1 hx with hx | hx
  · exact ho x (hsub.subset hx)
  · rw [List.mem_singleton.1 hx]
    exact ⟨hk.1, hk.2.1, hk.2.2.1, hu⟩
theorem ok_set (l : List Kt) (k : Nat) (hk : k < l.length) (d : Int) (ho : AllOk l) (hd : I64 d) : AllOk (l.set k { l[k] with used := d }) := by
  intro x hx
  rcases List.mem_or_eq_of_mem_set hx with hx | hx
  · exact ho x hx
  · have := ho _ (List.getElem_mem hk)
    rw [hx]
    exact ⟨this.1, this.2.1, this.2.2.1, hd⟩
theorem get_at {T base g : Nat} {v : Value} {l : List Kt} {u e : Int} {a : ByteArray} {now : Int} {w w' : World} {en : Ending} (h : GetP T base g v l u e a now w en w') (hq : Uniq l) (k : Nat) (hk : k < l.length) (hm : isM e a l[k] = true) (hx : now < l[k].exp) :
    en = .returned (.tuple #[.string l[k].token, .bool true]) ∧ St w T base g v v (l.set k { l[k] with used := u + 1 }) (u + 1) w' := by
  rcases h with ⟨_, _, h3⟩ | ⟨j, hj, m1, m2, h1, h2⟩
  · have := h3 k hk hm
    omega
  · have e1 := (isM_iff _ _ _).1 hm
    have e2 := (isM_iff _ _ _).1 m1
    have := hq j k hj hk (e2.1.trans e1.1.symm) (e2.2.trans e1.2.symm)
    subst this
    exact ⟨h1, h2⟩

/-- What a deed leaves. -/
def DoesP (S gc gr : Nat) (L : List Kt) (u : Int) (d : Dd) (w : World) (e : Ending) (w' : World) : Prop :=
  ∃ vc vr L' u', e = .returned (.bool true) ∧ Pair S gc gr vc vr L' L' u' u' w' ∧ WF L' u' ∧ AllOk L' ∧ u ≤ u' ∧ u' ≤ u + 1 ∧ (∀ x ∈ L', (∃ y ∈ L, Like x y) ∨ (d.kind = 0 ∧ Like x d.k)) ∧ Below S w w'

theorem same_like (L : List Kt) (d : Dd) : ∀ x ∈ L, (∃ y ∈ L, Like x y) ∨ (d.kind = 0 ∧ Like x d.k) := fun x hx => .inl ⟨x, hx, rfl, rfl, rfl, rfl, rfl⟩

set_option maxRecDepth 100000 in
set_option maxHeartbeats 4000000 in
theorem does_any (S gc gr : Nat) (vc vr : Value) (L : List Kt) (u : Int) (d : Dd) (w : World) (h : Pair S gc gr vc vr L L u u w) (hw : WF L u) (ho : AllOk L) (hk : d.k.ok) (hu : 0 ≤ u ∧ u ≤ 900) (hE : IntsAt w d.A d.es) (hn : d.es.length ≤ 9223372036854775807) (hA : 0 < d.es.length → ∀ b o, d.A = some ⟨b, o, none⟩ → b < S) :
    Calls Try.prog 13 #[.pointer (some ⟨gc, 0, none⟩), .pointer (some ⟨gr, 0, none⟩), d.agg] w (DoesP S gc gr L u d w) := by
  have hb0 : Below w.heap.size w (w.alloc (.cells #[.int .i64 d.kind, .int .i64 d.k.entry, .string d.k.aud, .string d.k.token, .int .i64 d.k.iat, .int .i64 d.k.exp, .int .i64 d.k.used, .string d.k.needs, .int .i64 d.now, .slice d.A d.es.length d.c] 40)) := (Below.refl _ _).alloc (Nat.le_refl _) _
  have P0 := Lib.hid (h.below hb0)
  have X0 := Lib.hid (Blk.new w 40 #[.int .i64 d.kind, .int .i64 d.k.entry, .string d.k.aud, .string d.k.token, .int .i64 d.k.iat, .int .i64 d.k.exp, .int .i64 d.k.used, .string d.k.needs, .int .i64 d.now, .slice d.A d.es.length d.c])
  have B0 := Lib.hid (hb0.mono h.base)
  have E0 := Lib.hid (hE.below hb0)
  have HBX : Hid (∀ k, foot gc vc k ∨ foot gr vr k → k ≠ w.heap.size) := Lib.hid fun k hk => by
    rcases hk with hk | hk
    · have := (h.c.foot_lt k hk).2; omega
    · have := (h.r.foot_lt k hk).2; omega
  have hSw : S ≤ w.heap.size := h.base
  have WW := Lib.hid hw
  have OO := Lib.hid ho
  have KK := Lib.hid hk
  have hfew := hw.few
  clear h hb0 hE hw ho hk
  go_enter Try.func13, Try.ntmps13
  go_upto_region 1 with fail
  generalize w.alloc (.cells #[.int .i64 d.kind, .int .i64 d.k.entry, .string d.k.aud, .string d.k.token, .int .i64 d.k.iat, .int .i64 d.k.exp, .int .i64 d.k.used, .string d.k.needs, .int .i64 d.now, .slice d.A d.es.length d.c] 40) = W0 at *
  have z0 := X0.out.cell 0
  have z1 := X0.out.cell 1
  have z2 := X0.out.cell 2
  have z3 := X0.out.cell 3
  have z4 := X0.out.cell 4
  have z5 := X0.out.cell 5
  have z6 := X0.out.cell 6
  have z7 := X0.out.cell 7
  have z8 := X0.out.cell 8
  have z9 := X0.out.cell 9
  simp only [List.getElem?_toArray, List.getElem?_cons_zero, List.getElem?_cons_succ] at z0 z1 z2 z3 z4 z5 z6 z7 z8 z9
  by_cases h0 : d.kind = 0
  · have k0 : (d.kind == 0) = true := by simp only [beq_iff_eq]; exact h0
    have PC := Lib.hid (put_wf S gc vc L u d.k W0 P0.out.c WW.out (by omega) P0.out.base)
    have LK := Lib.hid (fun x hx => (putL_like L u d.k WW.out x hx).imp id (fun h => (⟨h0, h⟩ : d.kind = 0 ∧ Like x d.k)))
    have W2 := Lib.hid (putL_wf L u d.k WW.out hu.1)
    have O2 := Lib.hid (ok_putL L u d.k WW.out OO.out KK.out (by unfold I64; omega))
    clear h0
    go_upto_region 4 with (go_at_call 9; (with_reducible refine PC.out.mono ?_); rintro e w2 ⟨rfl, v2, s⟩; have S2 := Lib.hid s; clear s)
    have P2 := Lib.hid (P0.out.onC S2.out)
    have B2 := Lib.hid (P0.out.toC S2.out)
    have X2 : Hid (Blk w2 w.heap.size 40 _) := Lib.hid (X0.out.only S2.out.only (fun hf => HBX.out _ (.inl hf) rfl))
    have RC := Lib.hid (refPut_any S gr vr L u d.k w2 P2.out.r (by omega) (by omega) P2.out.base)
    clear z0 z1 z2 z3 z4 z5 z6 z7 z8 z9
    have z1 := X2.out.cell 1
    have z2 := X2.out.cell 2
    have z3 := X2.out.cell 3
    have z4 := X2.out.cell 4
    have z5 := X2.out.cell 5
    have z6 := X2.out.cell 6
    have z7 := X2.out.cell 7
    simp only [List.getElem?_toArray, List.getElem?_cons_zero, List.getElem?_cons_succ] at z1 z2 z3 z4 z5 z6 z7
    go_wp2_with (go_at_call 14; (with_reducible refine RC.out.mono ?_); rintro e w3 ⟨rfl, v3, s⟩; have S3 := Lib.hid s; clear s)
    go_ret
    exact ⟨_, _, _, _, rfl, P2.out.onR S3.out, W2.out, O2.out, by omega, by omega, LK.out, (B0.out.trans B2.out).trans (P2.out.toR S3.out)⟩
  · have k0 : (d.kind == 0) = false := by simp only [beq_eq_false_iff_ne, ne_eq]; exact h0
    by_cases h1 : d.kind = 1
    · have k1 : (d.kind == 1) = true := by simp only [beq_iff_eq]; exact h1
      have GC := Lib.hid (get_any S gc vc L u d.k.entry d.k.aud d.now W0 P0.out.c (by omega) (by omega) WW.out.ones.uniq)
      clear h0 h1
      by_cases hit : ∃ k, ∃ hk : k < L.length, isM d.k.entry d.k.aud L[k] = true ∧ d.now < L[k].exp
      · obtain ⟨k, hk, hm, hx⟩ := hit
        have HM := Lib.hid hm
        have HX := Lib.hid hx
        have W2 := Lib.hid (wf_use L u WW.out hu.1 k hk)
        have LK := Lib.hid (fun x hx => (Or.inl (set_like L k hk (u + 1) x hx) : (∃ y ∈ L, Like x y) ∨ (d.kind = 0 ∧ Like x d.k)))
        have O2 := Lib.hid (ok_set L k hk (u + 1) OO.out (by unfold I64; omega))
        clear hm hx
        go_upto_region 7 with (go_at_call 12; (with_reducible refine GC.out.mono ?_); rintro e w2 hp; obtain ⟨rfl, s⟩ := get_at hp WW.out.ones.uniq k hk HM.out HX.out; have S2 := Lib.hid s; clear hp s)
        have P2 := Lib.hid (P0.out.onC S2.out)
        have B2 := Lib.hid (P0.out.toC S2.out)
        have X2 : Hid (Blk w2 w.heap.size 40 _) := Lib.hid (X0.out.only S2.out.only (fun hf => HBX.out _ (.inl hf) rfl))
        have RC := Lib.hid (refGet_any S gr vr L u d.k.entry d.k.aud d.now w2 P2.out.r (by omega) (by omega))
        clear z0 z1 z2 z3 z4 z5 z6 z7 z8 z9
        have z1 := X2.out.cell 1
        have z2 := X2.out.cell 2
        have z8 := X2.out.cell 8
        simp only [List.getElem?_toArray, List.getElem?_cons_zero, List.getElem?_cons_succ] at z1 z2 z8
        go_upto_region 8 with (go_at_call 26; (with_reducible refine RC.out.mono ?_); rintro e w3 hp; obtain ⟨rfl, s⟩ := get_at hp WW.out.ones.uniq k hk HM.out HX.out; have S3 := Lib.hid s; clear hp s)
        have FIN := Lib.hid (P2.out.onR S3.out)
        have BF := Lib.hid ((B0.out.trans B2.out).trans (P2.out.toR S3.out))
        generalize L.set k { L[k] with used := u + 1 } = L2 at *
        generalize L[k].token = tok at *
        have et : (tok.toList == tok.toList) = true := beq_self_eq_true _
        go_wp2_with fail
        go_ret
        exact ⟨_, _, L2, _, rfl, FIN.out, W2.out, O2.out, by omega, by omega, LK.out, BF.out⟩
      · have NH : Hid (∀ x ∈ L, isM d.k.entry d.k.aud x = true → x.exp ≤ d.now) := Lib.hid fun x hx hm => by
          obtain ⟨i, hi, rfl⟩ := List.getElem_of_mem hx
          by_cases c : L[i].exp ≤ d.now
          · exact c
          · exact absurd ⟨i, hi, hm, by omega⟩ hit
        clear hit
        go_upto_region 7 with (go_at_call 12; (with_reducible refine GC.out.mono ?_); rintro e w2 hp; obtain ⟨rfl, s⟩ := get_miss hp NH.out; have S2 := Lib.hid s; clear hp s)
        have P2 := Lib.hid (P0.out.onC S2.out)
        have B2 := Lib.hid (P0.out.toC S2.out)
        have X2 : Hid (Blk w2 w.heap.size 40 _) := Lib.hid (X0.out.only S2.out.only (fun hf => HBX.out _ (.inl hf) rfl))
        have RC := Lib.hid (refGet_any S gr vr L u d.k.entry d.k.aud d.now w2 P2.out.r (by omega) (by omega))
        clear z0 z1 z2 z3 z4 z5 z6 z7 z8 z9
        have z1 := X2.out.cell 1
        have z2 := X2.out.cell 2
        have z8 := X2.out.cell 8
        simp only [List.getElem?_toArray, List.getElem?_cons_zero, List.getElem?_cons_succ] at z1 z2 z8
        go_wp2_with (go_at_call 26; (with_reducible refine RC.out.mono ?_); rintro e w3 hp; obtain ⟨rfl, s⟩ := get_miss hp NH.out; have S3 := Lib.hid s; clear hp s)
        go_ret
        exact ⟨_, _, L, _, rfl, P2.out.onR S3.out, WW.out, OO.out, by omega, by omega, same_like L d, (B0.out.trans B2.out).trans (P2.out.toR S3.out)⟩
    · have k1 : (d.kind == 1) = false := by simp only [beq_eq_false_iff_ne, ne_eq]; exact h1
      by_cases h2 : d.kind = 2
      · have k2 : (d.kind == 2) = true := by simp only [beq_iff_eq]; exact h2
        have DC := Lib.hid (drop_any S gc vc L u d.A d.c d.es d.now W0 P0.out.c (by omega) E0.out hn hA)
        clear h0 h1 h2
        go_upto_region 11 with (go_at_call 27; (with_reducible refine DC.out.mono ?_); rintro e w2 ⟨rfl, v2, s⟩; have S2 := Lib.hid s; clear s)
        have P2 := Lib.hid (P0.out.onC S2.out)
        have B2 := Lib.hid (P0.out.toC S2.out)
        have X2 : Hid (Blk w2 w.heap.size 40 _) := Lib.hid (X0.out.only S2.out.only (fun hf => HBX.out _ (.inl hf) rfl))
        have E2 : Hid (IntsAt w2 d.A d.es) := Lib.hid fun hp => by
          obtain ⟨b, o, hb, hlt, hc⟩ := E0.out hp
          have hbS := hA hp b o hb
          exact ⟨b, o, hb, Nat.lt_of_lt_of_le hlt S2.out.only.size, fun i hi => (B2.out.cell (p := ⟨b, o + i, none⟩) hbS).trans (hc i hi)⟩
        have RC := Lib.hid (refDrop_any S gr vr L u d.A d.c d.es d.now w2 P2.out.r (by omega) E2.out hn P2.out.base)
        have W2 := Lib.hid (kept_wf (dropP d.es d.now) L u WW.out)
        have LK : Hid (∀ x ∈ keptOf (dropP d.es d.now) L, (∃ y ∈ L, Like x y) ∨ (d.kind = 0 ∧ Like x d.k)) := Lib.hid fun x hx => same_like L d x ((kept_sub _ L).subset hx)
        have O2 : Hid (AllOk (keptOf (dropP d.es d.now) L)) := Lib.hid fun x hx => OO.out x ((kept_sub _ L).subset hx)
        generalize keptOf (dropP d.es d.now) L = L2 at *
        clear z0 z1 z2 z3 z4 z5 z6 z7 z8 z9
        have z8 := X2.out.cell 8
        have z9 := X2.out.cell 9
        simp only [List.getElem?_toArray, List.getElem?_cons_zero, List.getElem?_cons_succ] at z8 z9
        go_wp2_with (go_at_call 28; (with_reducible refine RC.out.mono ?_); rintro e w3 ⟨rfl, v3, s⟩; have S3 := Lib.hid s; clear s)
        go_ret
        exact ⟨_, _, L2, _, rfl, P2.out.onR S3.out, W2.out, O2.out, by omega, by omega, LK.out, (B0.out.trans B2.out).trans (P2.out.toR S3.out)⟩
      · have k2 : (d.kind == 2) = false := by simp only [beq_eq_false_iff_ne, ne_eq]; exact h2
        clear h0 h1 h2
        go_wp2_with fail
        go_ret
        exact ⟨_, _, L, _, rfl, P0.out, WW.out, OO.out, by omega, by omega, same_like L d, B0.out⟩
end Go.Proofs.Ytffmhejkhimkcaa
