/- Two nets at once: the program's and the document's, and a deed of both. -/
import Derived.Test.YtnccgbcmencncaaN11
namespace Go.Proofs.Ytnccgbcmencncaa
open Go.RowKit

/-- Since w0 nothing has turned but new blocks; g is a net of the packets l, h one of the document's, of the packets m. -/
def Two (w0 : World) (g h : Nat) (w : World) (l m : List Pk) : Prop :=
  Below w0.heap.size w0 w ∧ ∃ v u, NetAt w 48 w0.heap.size g v l ∧ NetAt w 35 w0.heap.size h u m ∧ ∀ k, v.ownBlock = some k → u.ownBlock ≠ some k

theorem foot_lt {w : World} {T base g : Nat} {v : Value} {l : List Pk} (n : NetAt w T base g v l) : ∀ k, foot g v k → base ≤ k ∧ k < w.heap.size := by
  rintro k (e | e)
  · rw [e]; exact ⟨n.hbase, n.blk.lt⟩
  · exact n.own.lt k e
theorem foot_apart {w : World} {b b' g h : Nat} {v u : Value} {l m : List Pk} (n : NetAt w 48 b g v l) (r : NetAt w 35 b' h u m) (s : ∀ k, v.ownBlock = some k → u.ownBlock ≠ some k) : ∀ k, foot g v k → ¬ foot h u k := by
  rintro k (e | e) (e' | e')
  · exact n.blk.ne_ r.blk (by decide) (e.symm.trans e')
  · rw [e] at e'; exact own_blk_ne r.own n.blk (by decide) e'
  · rw [e'] at e; exact own_blk_ne n.own r.blk (by decide) e
  · exact s k e e'
theorem keeps35 {w w' : World} {base g : Nat} {v : Value} {l : List Pk} (n : NetAt w 35 base g v l) (o : Only (foot g v) w w') : ∀ (b : Nat) (t : TypeId) (cs : Array Value), t ≠ 35 → t ≠ 28 → Blk w b t cs → Blk w' b t cs := fun b t cs h1 h2 hb => hb.only o (by
  rintro (e | e)
  · exact hb.ne_ n.blk h1 e
  · exact own_blk_ne n.own hb (Ne.symm h2) e)
/-- Blocks of deeds, and of packets' readers, are as they were. -/
def Deeds (w w' : World) : Prop := w.heap.size ≤ w'.heap.size ∧ ∀ (b : Nat) (cs : Array Value), Blk w b 38 cs → Blk w' b 38 cs

theorem two_n {w0 w w' : World} {g h : Nat} {v v' u : Value} {l l' m : List Pk} (hb : Below w0.heap.size w0 w) (n : NetAt w 48 w0.heap.size g v l) (r : NetAt w 35 w0.heap.size h u m) (s : ∀ k, v.ownBlock = some k → u.ownBlock ≠ some k)
    (n' : NetAt w' 48 w0.heap.size g v' l') (o : Only (foot g v) w w') (f : Fresh w v v') : Two w0 g h w' l' m ∧ Deeds w w' := by
  refine ⟨⟨hb.trans (o.below hb.size fun k hk e => by have := (foot_lt n k e).1; omega), v', u, n', r.only o (fun k e e' => foot_apart n r s k e' e), fun k e e' => ?_⟩, o.size, fun b cs hb => keeps_of n o b _ cs (by decide) (by decide) hb⟩
  rcases f k e with q | q
  · exact s k q e'
  · have := (r.own.lt k e').2; omega
theorem two_r {w0 w w' : World} {g h : Nat} {v u u' : Value} {l m m' : List Pk} (hb : Below w0.heap.size w0 w) (n : NetAt w 48 w0.heap.size g v l) (r : NetAt w 35 w0.heap.size h u m) (s : ∀ k, v.ownBlock = some k → u.ownBlock ≠ some k)
    (r' : NetAt w' 35 w0.heap.size h u' m') (o : Only (foot h u) w w') (f : Fresh w u u') : Two w0 g h w' l m' ∧ Deeds w w' := by
  refine ⟨⟨hb.trans (o.below hb.size fun k hk e => by have := (foot_lt r k e).1; omega), v, u', n.only o (fun k e e' => foot_apart n r s k e e'), r', fun k e e' => ?_⟩, o.size, fun b cs hb => keeps35 r o b _ cs (by decide) (by decide) hb⟩
  rcases f k e' with q | q
  · exact s k e q
  · have := (n.own.lt k e).2; omega
theorem two_below {w0 w w' : World} {g h : Nat} {l m : List Pk} (t : Two w0 g h w l m) (hb : Below w.heap.size w w') : Two w0 g h w' l m := by
  obtain ⟨b, v, u, n, r, s⟩ := t
  exact ⟨b.trans (hb.mono b.size), v, u, n.only (F := fun _ => False) (Only.of_below hb) (fun _ _ x => x), r.only (F := fun _ => False) (Only.of_below hb) (fun _ _ x => x), s⟩
theorem two_drew {w0 w : World} {g h : Nat} {l m : List Pk} (t : Two w0 g h w l m) : Two w0 g h w.drew l m := two_below t (Below.refl _ _).drew
theorem deeds_below {w w' : World} (hb : Below w.heap.size w w') : Deeds w w' := ⟨hb.size, fun _ _ h => h.only (F := fun _ => False) (Only.of_below hb) id⟩

/-- What Copy answers, and what it leaves. -/
def copyCode (n : Nat) : Int := if n = 0 then 7 else putCode n
def copyList (l : List Pk) (k : Int) : List Pk := match l[place k l.length]? with
  | some p => putList l p
  | none => l
def takeList (l : List Pk) (k : Int) : List Pk := l.eraseIdx (place k l.length)
/-- What Take answers. -/
def takeVal (l : List Pk) (k : Int) : Value := match l[place k l.length]? with
  | some p => .tuple #[.agg #[.int .i64 p.src, .int .i64 p.dst, .string p.data], .bool true]
  | none => .tuple #[.agg #[.int .i64 0, .int .i64 0, .string ⟨#[]⟩], .bool false]

section
variable {w0 w : World} {g h : Nat} {l m : List Pk}
theorem two_putN (p : Pk) (t : Two w0 g h w l m) : Calls Try.prog 8 #[.pointer (some ⟨g, 0, none⟩), .agg #[.int .i64 p.src, .int .i64 p.dst, .string p.data]] w fun e w' => e = .returned (.int .i64 (putCode l.length)) ∧ Two w0 g h w' (putList l p) m ∧ Deeds w w' := by
  obtain ⟨b, v, u, n, r, s⟩ := t
  exact (put_any _ _ v l p w n b.size).mono fun _ _ ⟨he, v', n', o, f⟩ => ⟨he, two_n b n r s n' o f⟩
theorem two_putR (p : Pk) (t : Two w0 g h w l m) (hm : m.length ≤ 60) : Calls Try.prog 17 #[.pointer (some ⟨h, 0, none⟩), .agg #[.int .i64 p.src, .int .i64 p.dst, .string p.data]] w fun e w' => e = .returned (.int .i64 (putCode m.length)) ∧ Two w0 g h w' l (putList m p) ∧ Deeds w w' := by
  obtain ⟨b, v, u, n, r, s⟩ := t
  exact (refPut_any _ _ u m p w r b.size hm).mono fun _ _ ⟨he, v', n', o, f⟩ => ⟨he, two_r b n r s n' o f⟩
theorem nil_of {l : List Pk} (h : l.length = 0) : l = [] := List.eq_nil_of_length_eq_zero h
theorem two_copyN (k : Int) (t : Two w0 g h w l m) (hl : l.length ≤ 60) (hk : I64 k) : Calls Try.prog 15 #[.pointer (some ⟨g, 0, none⟩), .int .i64 k] w fun e w' => e = .returned (.int .i64 (copyCode l.length)) ∧ Two w0 g h w' (copyList l k) m ∧ Deeds w w' := by
  by_cases h0 : l.length = 0
  · have hn := nil_of h0
    subst hn
    obtain ⟨b, v, u, n, r, s⟩ := t
    exact (copy_none _ _ v k w n).mono fun _ _ ⟨he, hb⟩ => ⟨he, two_below ⟨b, v, u, n, r, s⟩ hb, deeds_below hb⟩
  · obtain ⟨b, v, u, n, r, s⟩ := t
    have hp := List.getElem?_eq_getElem (place_lt k l.length (by omega))
    have e1 : copyCode l.length = putCode l.length := if_neg h0
    have e2 : copyList l k = putList l (l[place k l.length]'(place_lt k _ (by omega))) := by unfold copyList; rw [hp]
    rw [e1, e2]
    exact (copy_some _ _ v k l _ w n (by omega) hl hk hp b.size).mono fun _ _ ⟨he, v', n', o, f⟩ => ⟨he, two_n b n r s n' o f⟩
theorem two_copyR (k : Int) (t : Two w0 g h w l m) (hl : m.length ≤ 60) (hk : I64 k) : Calls Try.prog 19 #[.pointer (some ⟨h, 0, none⟩), .int .i64 k] w fun e w' => e = .returned (.int .i64 (copyCode m.length)) ∧ Two w0 g h w' l (copyList m k) ∧ Deeds w w' := by
  by_cases h0 : m.length = 0
  · have hn := nil_of h0
    subst hn
    obtain ⟨b, v, u, n, r, s⟩ := t
    exact (refCopy_none _ _ u k w r).mono fun _ _ ⟨he, hb⟩ => ⟨he, hb ▸ ⟨b, v, u, n, r, s⟩, hb ▸ deeds_below (Below.refl _ _)⟩
  · obtain ⟨b, v, u, n, r, s⟩ := t
    have hp := List.getElem?_eq_getElem (place_lt k m.length (by omega))
    have e1 : copyCode m.length = putCode m.length := if_neg h0
    have e2 : copyList m k = putList m (m[place k m.length]'(place_lt k _ (by omega))) := by unfold copyList; rw [hp]
    rw [e1, e2]
    exact (refCopy_some _ _ u k m _ w r (by omega) hl hk hp b.size).mono fun _ _ ⟨he, v', n', o, f⟩ => ⟨he, two_r b n r s n' o f⟩
theorem two_takeN (k : Int) (t : Two w0 g h w l m) (hl : l.length ≤ 60) (hk : I64 k) : Calls Try.prog 14 #[.pointer (some ⟨g, 0, none⟩), .int .i64 k] w fun e w' => e = .returned (takeVal l k) ∧ Two w0 g h w' (takeList l k) m ∧ Deeds w w' := by
  by_cases h0 : l.length = 0
  · have hn := nil_of h0
    subst hn
    obtain ⟨b, v, u, n, r, s⟩ := t
    exact (take_none _ _ v k w n).mono fun _ _ ⟨he, hb⟩ => ⟨he, two_below ⟨b, v, u, n, r, s⟩ hb, deeds_below hb⟩
  · obtain ⟨b, v, u, n, r, s⟩ := t
    have hp := List.getElem?_eq_getElem (place_lt k l.length (by omega))
    have e2 : takeVal l k = .tuple #[(l[place k l.length]'(place_lt k _ (by omega))).agg, .bool true] := by unfold takeVal; rw [hp]; rfl
    rw [e2]
    exact (take_some _ _ v k l w n (by omega) hl hk).mono fun _ _ ⟨he, v', n', o, f⟩ => ⟨he, two_n b n r s n' o f⟩
theorem two_takeR (k : Int) (t : Two w0 g h w l m) (hl : m.length ≤ 60) (hk : I64 k) : Calls Try.prog 18 #[.pointer (some ⟨h, 0, none⟩), .int .i64 k] w fun e w' => e = .returned (takeVal m k) ∧ Two w0 g h w' l (takeList m k) ∧ Deeds w w' := by
  by_cases h0 : m.length = 0
  · have hn := nil_of h0
    subst hn
    obtain ⟨b, v, u, n, r, s⟩ := t
    exact (refTake_none _ _ u k w r).mono fun _ _ ⟨he, hb⟩ => ⟨he, two_below ⟨b, v, u, n, r, s⟩ hb, deeds_below hb⟩
  · obtain ⟨b, v, u, n, r, s⟩ := t
    have hp := List.getElem?_eq_getElem (place_lt k m.length (by omega))
    have e2 : takeVal m k = .tuple #[(m[place k m.length]'(place_lt k _ (by omega))).agg, .bool true] := by unfold takeVal; rw [hp]; rfl
    rw [e2]
    exact (refTake_some _ _ u k m _ w r (by omega) hl hk hp b.size).mono fun _ _ ⟨he, v', n', o, f⟩ => ⟨he, two_r b n r s n' o f⟩
end
end Go.Proofs.Ytnccgbcmencncaa
