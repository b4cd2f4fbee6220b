/- Take and Copy of the net, with the closures that they hand on. -/
import Derived.Test.YtnccgbcmencncaaN3
import Derived.Deep.RegionWith
namespace Go.Proofs.Ytnccgbcmencncaa
open Go.RowKit

theorem set3 {w : World} {pb : Nat} {z0 z1 z2 : Value} (hpb : Blk w pb 28 #[z0, z1, z2]) (a b c : Value) :
    Blk (((w.setCell ⟨pb, 0, none⟩ a).setCell ⟨pb, 1, none⟩ b).setCell ⟨pb, 2, none⟩ c) pb 28 #[a, b, c] ∧ Only (fun k => k = pb) w (((w.setCell ⟨pb, 0, none⟩ a).setCell ⟨pb, 1, none⟩ b).setCell ⟨pb, 2, none⟩ c) :=
  ⟨by simpa using ((hpb.set_ 0 a).set_ 1 b).set_ 2 c, Only.setCell (F := fun k => k = pb) (p := ⟨pb, 2, none⟩) (Only.setCell (F := fun k => k = pb) (p := ⟨pb, 1, none⟩) (Only.setCell (F := fun k => k = pb) (p := ⟨pb, 0, none⟩) (Only.refl _ _) (.inl rfl) a) (.inl rfl) b) (.inl rfl) c⟩

theorem take1_done {base g r cap i pb : Nat} {l : List Pk} {p : Pk} {w W1 w1 : World} (h1 : NetAt W1 48 base g (.slice (some ⟨r, 0, none⟩) l.length cap) l) (hi : i < l.length) (m1 : Blk W1 pb 28 #[.int .i64 p.src, .int .i64 p.dst, .string p.data])
    (m2 : Only (fun k => k = pb) w W1) (hgr : g ≠ r) (n2 : g ≠ pb) (n3 : pb ≠ r) (ho : w1.ownsRow base 28 3 (.slice (some ⟨r, 0, none⟩) (l.length - 1) cap) (l.length - 1) (pks (l.eraseIdx i))) (hb : Only (fun k => k = r) W1.drew w1) :
    NetAt (w1.setCell ⟨g, 0, none⟩ (.slice (some ⟨r, 0, none⟩) (l.length - 1) cap)) 48 base g (.slice (some ⟨r, 0, none⟩) (l.length - 1) cap) (l.eraseIdx i) ∧
      Blk (w1.setCell ⟨g, 0, none⟩ (.slice (some ⟨r, 0, none⟩) (l.length - 1) cap)) pb 28 p.cells.toArray ∧ Only (fun k => k = g ∨ k = r ∨ k = pb) w (w1.setCell ⟨g, 0, none⟩ (.slice (some ⟨r, 0, none⟩) (l.length - 1) cap)) := by
  have hle : (l.eraseIdx i).length = l.length - 1 := List.length_eraseIdx_of_lt hi
  have b1 : Blk w1 g 48 _ := Blk.only (w := W1.drew) h1.blk hb hgr
  have b2 : Blk w1 pb 28 _ := Blk.only (w := W1.drew) m1 hb n3
  refine ⟨⟨h1.hbase, by simpa using b1.set_ 0 _, ?_⟩, b2.far (p := ⟨g, 0, none⟩) (Ne.symm n2) _, ?_⟩
  · rw [hle]
    refine own_only (F := fun k => k = g) ho (Only.setCell (F := fun k => k = g) (p := ⟨g, 0, none⟩) (Only.refl _ _) (.inl rfl) _) (fun k hk e => ?_)
    injection hk with hk
    exact hgr (e.symm.trans hk.symm)
  · refine Only.setCell (p := ⟨g, 0, none⟩) (Only.trans (b := W1) (m2.mono fun k _ e => .inr (.inr e)) ?_) (.inl (.inl rfl)) _
    exact (⟨hb.os, hb.tape, hb.output, hb.size, hb.block⟩ : Only (fun k => k = r) W1 w1).mono fun k _ e => .inr (.inl e)

set_option maxHeartbeats 1000000 in
theorem take1_walk (base g r cap i nb pb : Nat) (z0 z1 z2 : Value) (l : List Pk) (p : Pk) (w : World) (h : NetAt w 48 base g (.slice (some ⟨r, 0, none⟩) l.length cap) l) (hi : i < l.length) (hp : l[i] = p)
    (hn : Blk w nb 23 #[.pointer (some ⟨g, 0, none⟩)]) (hpb : Blk w pb 28 #[z0, z1, z2]) (hne : pb ≠ r) :
    Calls Try.prog 21 #[.int .i64 i, .pointer (some ⟨nb, 0, none⟩), .pointer (some ⟨pb, 0, none⟩)] w fun e w' => e = .returned (.tuple #[]) ∧ NetAt w' 48 base g (.slice (some ⟨r, 0, none⟩) (l.length - 1) cap) (l.eraseIdx i) ∧
      Blk w' pb 28 p.cells.toArray ∧ Only (fun k => k = g ∨ k = r ∨ k = pb) w w' := by
  have hg := h.blk.cell 0
  have hgf := h.blk.frozen 0
  simp only [List.getElem?_toArray, List.getElem?_cons_zero] at hg
  have hn0 := hn.cell 0
  simp only [List.getElem?_toArray, List.getElem?_cons_zero] at hn0
  have hp0 := hpb.cell 0
  have hp1 := hpb.cell 1
  have hp2 := hpb.cell 2
  simp at hp0 hp1 hp2
  have f0 := hpb.frozen 0
  have f1 := hpb.frozen 1
  have f2 := hpb.frozen 2
  obtain ⟨x, y, z⟩ := cellsAt h.own i hi
  rw [hp] at x y z
  have i0 : (0 : Int) ≤ (i : Int) := by omega
  have i1 : (i : Int) < (l.length : Int) := by omega
  have n1 : nb ≠ pb := hn.ne_ hpb (by decide)
  have n2 : g ≠ pb := h.blk.ne_ hpb (by decide)
  have H := Lib.hid h
  have HP := Lib.hid hp
  have HN := Lib.hid hn
  have HPB := Lib.hid hpb
  have HNE := Lib.hid hne
  clear h hp hn hpb hne
  go_enter Try.func21, Try.ntmps21
  go_wp2_with fail
  obtain ⟨W1, hW1, m1, m2⟩ : ∃ W1, W1 = (((w.setCell ⟨pb, 0, none⟩ (.int .i64 p.src)).setCell ⟨pb, 1, none⟩ (.int .i64 p.dst)).setCell ⟨pb, 2, none⟩ (.string p.data)) ∧ Hid (Blk W1 pb 28 #[.int .i64 p.src, .int .i64 p.dst, .string p.data]) ∧ Hid (Only (fun k => k = pb) w W1) := ⟨_, rfl, (set3 HPB.out _ _ _).1, (set3 HPB.out _ _ _).2⟩
  rw [← hW1]
  clear hW1 hg hgf hn0 hp0 hp1 hp2 f0 f1 f2 x y z
  have h1 := H.out.only m2.out (fun k hk e => by
    rcases hk with hk | hk
    · exact n2 (hk.symm.trans e)
    · injection hk with hk
      exact HNE.out (e.symm.trans hk.symm))
  have hg := h1.blk.cell 0
  have hgf := h1.blk.frozen 0
  simp only [List.getElem?_toArray, List.getElem?_cons_zero] at hg
  have hn0 := (HN.out.only m2.out (fun e => n1 e)).cell 0
  simp only [List.getElem?_toArray, List.getElem?_cons_zero] at hn0
  have hgr := own_blk_ne h1.own h1.blk (by decide)
  have HGR : Hid (g ≠ r) := fun e => hgr (by rw [e]; rfl)
  have H1 := Lib.hid h1
  have w1 : IntKind.i64.wrap ((i : Int) + 1) = (i : Int) + 1 := IntWalk.i64_in _ (by have := h1.own.1; have := (own_cur h1.own); obtain ⟨_, _, _, a, b, _⟩ := this; unfold maxLen at b; omega)
  clear h1 hgr
  have HNR : Hid (nb ≠ r) := fun e => own_blk_ne H.out.own HN.out (by decide) (by rw [e]; rfl)
  go_region_with (go_at_call 22; refine (delete_any base r cap i l W1.drew (World.ownsRow.drew H1.out.own) hi).mono ?_; rintro e w1 ⟨rfl, ho, hb⟩; have c1 : w1.cell? ⟨g, 0, none⟩ = some (.slice (some ⟨r, 0, none⟩) l.length cap) := hb.cell (a := W1.drew) (p := ⟨g, 0, none⟩) hg HGR.out; have c3 : w1.cell? ⟨nb, 0, none⟩ = some (.pointer (some ⟨g, 0, none⟩)) := hb.cell (a := W1.drew) (p := ⟨nb, 0, none⟩) hn0 HNR.out; have c2 : w1.frozen? ⟨g, 0, none⟩ = false := (World.frozen?_of_block (hb.block g H1.out.blk.lt HGR.out)).trans hgf)
  all_goals
    go_end0
    exact ⟨rfl, take1_done H1.out hi m1.out m2.out HGR.out n2 HNE.out ho hb⟩
end Go.Proofs.Ytnccgbcmencncaa
