/- Take and Copy of the net. -/
import Derived.Test.YtnccgbcmencncaaN5
namespace Go.Proofs.Ytnccgbcmencncaa
open Go.RowKit

theorem NetAt.alloc {w : World} {T base g : Nat} {v : Value} {l : List Pk} (h : NetAt w T base g v l) (o : Obj) : NetAt (w.alloc o) T base g v l := h.only (F := fun _ => False) ((Only.refl _ _).alloc o) (fun _ _ h => h)

theorem take1_at (base g r cap i nb pb : Nat) (z0 z1 z2 : Value) (l : List Pk) (p : Pk) (w : World) (h : NetAt w 48 base g (.slice (some ⟨r, 0, none⟩) l.length cap) l) (hp : l[i]? = some p)
    (hn : Blk w nb 23 #[.pointer (some ⟨g, 0, none⟩)]) (hpb : Blk w pb 28 #[z0, z1, z2]) (hne : pb ≠ r) :
    Calls Try.prog 21 #[.int .i64 i, .pointer (some ⟨nb, 0, none⟩), .pointer (some ⟨pb, 0, none⟩)] w fun e w' => e = .returned (.tuple #[]) ∧ NetAt w' 48 base g (.slice (some ⟨r, 0, none⟩) (l.length - 1) cap) (l.eraseIdx i) ∧
      Blk w' pb 28 p.cells.toArray ∧ Only (fun k => k = g ∨ k = r ∨ k = pb) w w' := by
  obtain ⟨hi, hp⟩ := List.getElem?_eq_some_iff.1 hp
  exact take1_walk base g r cap i nb pb z0 z1 z2 l p w h hi hp hn hpb hne

theorem blk3 (w : World) (o1 : Obj) (t t2 : TypeId) (cs cs2 : Array Value) : Blk (((w.alloc o1).alloc (.cells cs t)).alloc (.cells cs2 t2)) (w.heap.size + 1) t cs ∧ Blk (((w.alloc o1).alloc (.cells cs t)).alloc (.cells cs2 t2)) (w.heap.size + 2) t2 cs2 := by
  have a := (Blk.new (w.alloc o1) t cs).alloc (.cells cs2 t2)
  have b := Blk.new ((w.alloc o1).alloc (.cells cs t)) t2 cs2
  have e1 : (w.alloc o1).heap.size = w.heap.size + 1 := by simp
  have e2 : ((w.alloc o1).alloc (.cells cs t)).heap.size = w.heap.size + 2 := by simp
  rw [e1] at a
  rw [e2] at b
  exact ⟨a, b⟩

theorem netVal {w : World} {T base g : Nat} {v : Value} {l : List Pk} (h : NetAt w T base g v l) (hl : 0 < l.length) : ∃ r cap, v = .slice (some ⟨r, 0, none⟩) l.length cap := by
  rcases h.own.2 with ⟨_, h0⟩ | ⟨g, cap, cur, rfl, _⟩
  · omega
  · exact ⟨_, _, rfl⟩

theorem cf21 : ∀ (args : Array Value) (wx : World), (callFunc 21 args).run Try.prog wx = .ok (.enter 21 args) wx := fun args wx => by go_simp
theorem cf23 : ∀ (args : Array Value) (wx : World), (callFunc 23 args).run Try.prog wx = .ok (.enter 23 args) wx := fun args wx => by go_simp

set_option maxHeartbeats 1000000 in
theorem take_none (base g : Nat) (v : Value) (k : Int) (w : World) (h : NetAt w 48 base g v []) :
    Calls Try.prog 14 #[.pointer (some ⟨g, 0, none⟩), .int .i64 k] w fun e w' => e = .returned (.tuple #[.agg #[.int .i64 0, .int .i64 0, .string ⟨#[]⟩], .bool false]) ∧ Below w.heap.size w w' := by
  have h3 := fun o1 o2 o3 => ((h.alloc o1).alloc o2).alloc o3
  have H3 := Lib.hid h3
  clear h h3
  go_enter Try.func14, Try.ntmps14
  go_wp2_with (go_at_call 20; refine (with_none base g v k _ _ (H3.out _ _ _)).mono ?_; rintro e w' ⟨rfl, rfl⟩)
  refine bodyPost_ret (v := .tuple #[.agg #[.int .i64 0, .int .i64 0, .string ⟨#[]⟩], .bool false]) (by simp [results, Try.results14, go_sem]) rfl ⟨rfl, ?_⟩
  exact (((Below.refl _ _).alloc (Nat.le_refl _) _).alloc (by simp) _).alloc (by simp; omega) _

def TakePost (T base g : Nat) (v : Value) (l : List Pk) (p : Pk) (w : World) (e : Ending) (w' : World) : Prop :=
  e = .returned (.tuple #[p.agg, .bool true]) ∧ ∃ v', NetAt w' T base g v' l ∧ Only (foot g v) w w' ∧ Fresh w v v'

set_option maxHeartbeats 1000000 in
theorem take_some (base g : Nat) (v : Value) (k : Int) (l : List Pk) (w : World) (h : NetAt w 48 base g v l) (hl : 0 < l.length) (hl2 : l.length ≤ 60) (hk : I64 k) :
    Calls Try.prog 14 #[.pointer (some ⟨g, 0, none⟩), .int .i64 k] w (TakePost 48 base g v (l.eraseIdx (place k l.length)) (l[place k l.length]'(place_lt k _ hl)) w) := by
  obtain ⟨r, cap, rfl⟩ := netVal h hl
  have hi := place_lt k l.length hl
  generalize hp : l[place k l.length] = p
  have H3 := Lib.hid (fun o1 o2 o3 => ((h.alloc o1).alloc o2).alloc o3)
  have hr : r < w.heap.size := (h.own.lt r rfl).2
  have HP : Hid (l[place k l.length]? = some p) := by rw [← hp]; exact List.getElem?_eq_getElem hi
  have hgl := h.blk.lt
  have HH := Lib.hid h
  clear h hp hi
  go_enter Try.func14, Try.ntmps14
  go_wp2_with fail
  generalize ho1 : Obj.cells #[.pointer (some ⟨g, 0, none⟩)] 23 = o1
  generalize ho2 : Obj.cells #[.int .i64 0, .int .i64 0, .string ⟨#[]⟩] 28 = o2
  have HO1 := Lib.hid ho1
  have HO2 := Lib.hid ho2
  clear ho1 ho2
  obtain ⟨W3, hW3⟩ : ∃ W3, W3 = ((w.alloc o1).alloc o2).alloc o2 := ⟨_, rfl⟩
  rw [← hW3]
  have b1 : Hid (Blk W3 w.heap.size 23 #[.pointer (some ⟨g, 0, none⟩)]) := by rw [hW3, ← HO1.out]; exact ((Blk.new w 23 _).alloc _).alloc _
  have b2 : Hid (Blk W3 (w.heap.size + 1) 28 #[.int .i64 0, .int .i64 0, .string ⟨#[]⟩]) := by rw [hW3, ← HO2.out]; exact (blk3 w o1 28 28 _ _).1
  have b3 : Hid (Blk W3 (w.heap.size + 2) 28 #[.int .i64 0, .int .i64 0, .string ⟨#[]⟩]) := by rw [hW3, ← HO2.out]; exact (blk3 w o1 28 28 _ _).2
  have H4 : Hid (NetAt W3 48 base g (.slice (some ⟨r, 0, none⟩) l.length cap) l) := by rw [hW3]; exact H3.out _ _ _
  have bel : Hid (Below w.heap.size w W3) := by rw [hW3]; exact (((Below.refl _ _).alloc (Nat.le_refl _) _).alloc (by simp) _).alloc (by simp; omega) _
  clear hW3
  refine (with_some base g _ k 21 _ _ l W3 _ H4.out hl (by omega) hk cf21 (take1_at base g r cap (place k l.length) w.heap.size (w.heap.size + 2) _ _ _ l p W3 H4.out HP.out b1.out b3.out (by omega))).mono ?_
  rintro e w4 ⟨rfl, n4, p4, on4⟩
  have q0 := p4.cell 0
  have q1 := p4.cell 1
  have q2 := p4.cell 2
  simp [Pk.cells] at q0 q1 q2
  have c4 := b2.out.only on4 (by rintro (e | e | e) <;> omega)
  have z0 := c4.cell 0
  have z1 := c4.cell 1
  have z2 := c4.cell 2
  simp at z0 z1 z2
  have f0 := c4.frozen 0
  have f1 := c4.frozen 1
  have f2 := c4.frozen 2
  have N4 := Lib.hid n4
  have C4 := Lib.hid c4
  have ON4 := Lib.hid on4
  clear n4 c4 on4 p4
  go_wp2_with fail
  have s4 := set3 C4.out (.int .i64 p.src) (.int .i64 p.dst) (.string p.data)
  refine bodyPost_ret (v := .tuple #[p.agg, .bool true]) (by
    have y0 := s4.1.cell 0
    have y1 := s4.1.cell 1
    have y2 := s4.1.cell 2
    simp at y0 y1 y2
    simp [results, Try.results14, go_sem, y0, y1, y2, Pk.agg]) rfl ⟨rfl, ?_⟩
  have hgr : g ≠ w.heap.size + 1 := by omega
  refine ⟨_, N4.out.only s4.2 ?_, ?_, ?_⟩
  · rintro k (e | e) e'
    · omega
    · have : r = k := by simpa [Value.ownBlock] using e
      omega
  · refine Only.then_ (Only.then_ (Only.of_below bel.out) ON4.out ?_) s4.2 ?_
    · rintro i (e | e | e)
      · exact .inl (.inl e)
      · exact .inl (.inr (by rw [e]; rfl))
      · exact .inr (by omega)
    · intro i e; exact .inr (by omega)
  · intro k hk; exact .inl hk

/-- What Put answers; what it leaves. -/
def putCode (n : Nat) : Int := if n < 60 then 0 else 6
def putList (l : List Pk) (p : Pk) : List Pk := if l.length < 60 then l ++ [p] else l
theorem putCode_lt {n : Nat} (h : n < 60) : putCode n = 0 := if_pos h
theorem putCode_ge {n : Nat} (h : ¬ n < 60) : putCode n = 6 := if_neg h
theorem putList_lt {l : List Pk} {p : Pk} (h : l.length < 60) : putList l p = l ++ [p] := if_pos h
theorem putList_ge {l : List Pk} {p : Pk} (h : ¬ l.length < 60) : putList l p = l := if_neg h
/-- What Put answers, and what it leaves. -/
def PutAny (T base g : Nat) (v : Value) (l : List Pk) (p : Pk) (w : World) (e : Ending) (w' : World) : Prop :=
  e = .returned (.int .i64 (putCode l.length)) ∧ ∃ v', NetAt w' T base g v' (putList l p) ∧ Only (foot g v) w w' ∧ Fresh w v v'

theorem put_any (base g : Nat) (v : Value) (l : List Pk) (p : Pk) (w : World) (h : NetAt w 48 base g v l) (hb : base ≤ w.heap.size) :
    Calls Try.prog 8 #[.pointer (some ⟨g, 0, none⟩), p.agg] w (PutAny 48 base g v l p w) := by
  by_cases hl : l.length < 60
  · refine (put_room base g v l p w h hl hb).mono fun e w' ⟨he, h2⟩ => ?_
    unfold PutAny
    rw [putCode_lt hl, putList_lt hl]
    exact ⟨he, h2⟩
  · refine (put_full base g v l p w h (by omega)).mono fun e w' ⟨he, h2⟩ => ?_
    unfold PutAny
    rw [putCode_ge hl, putList_ge hl]
    have ho : Only (foot g v) w w' := Only.of_below h2
    refine ⟨he, v, h.only (F := fun _ => False) (Only.of_below h2) (fun _ _ x => x), ho, fun k hk => .inl hk⟩

set_option maxHeartbeats 1000000 in
theorem copy1_walk (base g i nb eb : Nat) (v z : Value) (l : List Pk) (p : Pk) (w : World) (h : NetAt w 48 base g v l) (hp : l[i]? = some p) (hbw : base ≤ w.heap.size)
    (hn : Blk w nb 23 #[.pointer (some ⟨g, 0, none⟩)]) (he : Blk w eb 25 #[z]) :
    Calls Try.prog 23 #[.int .i64 i, .pointer (some ⟨nb, 0, none⟩), .pointer (some ⟨eb, 0, none⟩)] w fun e w' => e = .returned (.tuple #[]) ∧ (∃ v', NetAt w' 48 base g v' (putList l p) ∧ Fresh w v v') ∧
      Blk w' eb 25 #[.int .i64 (putCode l.length)] ∧ Only (fun k => foot g v k ∨ k = eb) w w' := by
  obtain ⟨hi, hp⟩ := List.getElem?_eq_some_iff.1 hp
  obtain ⟨r, cap, rfl⟩ := netVal h (by omega)
  have hg := h.blk.cell 0
  simp only [List.getElem?_toArray, List.getElem?_cons_zero] at hg
  have hn0 := hn.cell 0
  simp only [List.getElem?_toArray, List.getElem?_cons_zero] at hn0
  have he0 := he.cell 0
  simp only [List.getElem?_toArray, List.getElem?_cons_zero] at he0
  have hef := he.frozen 0
  obtain ⟨x, y, zz⟩ := cellsAt h.own i hi
  rw [hp] at x y zz
  have i0 : (0 : Int) ≤ (i : Int) := by omega
  have i1 : (i : Int) < (l.length : Int) := by omega
  have n1 : nb ≠ eb := hn.ne_ he (by decide)
  have n2 : g ≠ eb := h.blk.ne_ he (by decide)
  have n3 : g ≠ nb := h.blk.ne_ hn (by decide)
  have n4 : r ≠ nb := fun e => own_blk_ne h.own hn (by decide) (by rw [← e]; rfl)
  have n5 : r ≠ eb := fun e => own_blk_ne h.own he (by decide) (by rw [← e]; rfl)
  have NN := Lib.hid (And.intro n1 (And.intro n2 (And.intro n3 (And.intro n4 n5))))
  have H := Lib.hid h
  have HN := Lib.hid hn
  have HE := Lib.hid he
  clear h hp hn he n1 n2 n3 n4 n5
  go_enter Try.func23, Try.ntmps23
  go_wp2_with fail
  go_region_with (go_at_call 8; refine (put_any base g _ l p w.drew (H.out.only (F := fun _ => False) (Only.refl _ _).drew (fun _ _ x => x)) hbw).mono ?_; rintro e w1 ⟨rfl, v1, ho, hb, hf⟩; have c1 := (HE.out.only (w' := w1) ⟨hb.os, hb.tape, hb.output, hb.size, hb.block⟩ (by rintro (e | e); exact NN.out.2.1 e.symm; exact NN.out.2.2.2.2 (by injection e))); have c2 := c1.cell 0; simp only [List.getElem?_toArray, List.getElem?_cons_zero] at c2; have c3 := c1.frozen 0; have C1 := Lib.hid c1; clear c1)
  all_goals
    go_end0
    refine ⟨rfl, ⟨v1, ho.only (F := fun k => k = eb) (Only.setCell (F := fun k => k = eb) (p := ⟨eb, 0, none⟩) (Only.refl _ _) (.inl rfl) _) ?_, hf⟩, by simpa using C1.out.set_ 0 _, ?_⟩
    · rintro k (e | e) e'
      · exact NN.out.2.1 (e.symm.trans e')
      · rcases hf k e with q | q
        · exact NN.out.2.2.2.2 (by rw [← e']; injection q)
        · have q' : w.heap.size ≤ k := q
          have := HE.out.lt
          omega
    · refine Only.setCell (p := ⟨eb, 0, none⟩) ?_ (.inl (.inr rfl)) _
      exact (⟨hb.os, hb.tape, hb.output, hb.size, hb.block⟩ : Only _ w w1).mono fun k _ e => .inl e

set_option maxHeartbeats 1000000 in
theorem copy_none (base g : Nat) (v : Value) (k : Int) (w : World) (h : NetAt w 48 base g v []) :
    Calls Try.prog 15 #[.pointer (some ⟨g, 0, none⟩), .int .i64 k] w fun e w' => e = .returned (.int .i64 7) ∧ Below w.heap.size w w' := by
  have H2 := Lib.hid (fun o1 o2 => (h.alloc o1).alloc o2)
  clear h
  go_enter Try.func15, Try.ntmps15
  go_wp2_with (go_at_call 20; refine (with_none base g v k _ _ (H2.out _ _)).mono ?_; rintro e w' ⟨rfl, rfl⟩)
  go_ret
  exact ⟨rfl, ((Below.refl _ _).alloc (Nat.le_refl _) _).alloc (by simp) _⟩

set_option maxHeartbeats 1000000 in
theorem copy_some (base g : Nat) (v : Value) (k : Int) (l : List Pk) (p : Pk) (w : World) (h : NetAt w 48 base g v l) (hl : 0 < l.length) (hl2 : l.length ≤ 60) (hk : I64 k) (hp : l[place k l.length]? = some p) (hbw : base ≤ w.heap.size) :
    Calls Try.prog 15 #[.pointer (some ⟨g, 0, none⟩), .int .i64 k] w (PutAny 48 base g v l p w) := by
  have H2 := Lib.hid (fun o1 o2 => (h.alloc o1).alloc o2)
  have HP := Lib.hid hp
  have hgl := h.blk.lt
  have hvl := Lib.hid h.own.lt
  clear h hp
  go_enter Try.func15, Try.ntmps15
  go_wp2_with fail
  generalize ho1 : Obj.cells #[.pointer (some ⟨g, 0, none⟩)] 23 = o1
  generalize ho2 : Obj.cells #[.int .i64 7] 25 = o2
  have HO1 := Lib.hid ho1
  have HO2 := Lib.hid ho2
  clear ho1 ho2
  obtain ⟨W3, hW3⟩ : ∃ W3, W3 = (w.alloc o1).alloc o2 := ⟨_, rfl⟩
  rw [← hW3]
  have b1 : Hid (Blk W3 w.heap.size 23 #[.pointer (some ⟨g, 0, none⟩)]) := by rw [hW3, ← HO1.out]; exact (Blk.new w 23 _).alloc _
  have b2 : Hid (Blk W3 (w.heap.size + 1) 25 #[.int .i64 7]) := by
    rw [hW3, ← HO2.out]
    have b := Blk.new (w.alloc o1) 25 #[.int .i64 7]
    have e1 : (w.alloc o1).heap.size = w.heap.size + 1 := by simp
    rw [e1] at b
    exact b
  have H4 : Hid (NetAt W3 48 base g v l) := by rw [hW3]; exact H2.out _ _
  have bel : Hid (Below w.heap.size w W3) := by rw [hW3]; exact ((Below.refl _ _).alloc (Nat.le_refl _) _).alloc (by simp) _
  have hs3 : w.heap.size ≤ W3.heap.size := by rw [hW3]; simp; omega
  clear hW3
  refine (with_some base g v k 23 _ _ l W3 _ H4.out hl (by omega) hk cf23 (copy1_walk base g (place k l.length) w.heap.size (w.heap.size + 1) v _ l p W3 H4.out HP.out (by omega) b1.out b2.out)).mono ?_
  rintro e w4 ⟨rfl, n4, p4, on4⟩
  have q0 := p4.cell 0
  simp only [List.getElem?_toArray, List.getElem?_cons_zero] at q0
  have N4 := Lib.hid n4
  have ON4 := Lib.hid on4
  clear n4 on4 p4
  go_wp2_with fail
  go_ret
  obtain ⟨v', n4, hf⟩ := N4.out
  refine ⟨rfl, v', n4, Only.then_ (Only.of_below bel.out) ON4.out ?_, fun k hk => ?_⟩
  · rintro i (e | e)
    · exact .inl e
    · exact .inr (by omega)
  · rcases hf k hk with e | e
    · exact .inl e
    · exact .inr (by omega)
end Go.Proofs.Ytnccgbcmencncaa
