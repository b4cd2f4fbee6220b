/- The document's ways: Far. -/
import Derived.Test.YtcbfmpnkadkpdaaC7
set_option linter.unusedVariables false
namespace Go.Proofs.Ytcbfmpnkadkpdaa
open Go.RowKit Go.Maps

/-- A row of numbers. -/
def Row (w : World) (b : Nat) (t : TypeId) (k : IntKind) (n : Nat) (f : Nat → Int) : Prop := w.rowIs b t n (fun i => .int k (f i))
section
variable {w w' : World} {b : Nat} {t : TypeId} {k : IntKind} {n : Nat} {f g : Nat → Int}
theorem Row.cell (h : Row w b t k n f) {i : Nat} (hi : i < n) : w.cell? ⟨b, i, none⟩ = some (.int k (f i)) := World.rowIs.cell h hi
theorem Row.frozen (h : Row w b t k n f) (i : Nat) : w.frozen? ⟨b, i, none⟩ = false := World.rowIs.frozen h i
theorem Row.lt (h : Row w b t k n f) : b < w.heap.size := World.rowIs.lt h
theorem Row.congr (h : Row w b t k n f) (e : ∀ i, i < n → f i = g i) : Row w b t k n g := World.rowIs.congr h (fun i hi => by rw [e i hi])
theorem Row.set (h : Row w b t k n f) (i : Nat) (v : Int) : Row (w.setCell ⟨b, i, none⟩ (.int k v)) b t k n (fun j => if j = i then v else f j) := by
  have := World.rowIs.set h i (.int k v)
  refine World.rowIs.congr this (fun j _ => ?_)
  by_cases e : j = i <;> simp [e]
theorem Row.setTo (h : Row w b t k n f) (i : Nat) (v : Int) (e : ∀ j, j < n → g j = if j = i then v else f j) : Row (w.setCell ⟨b, i, none⟩ (.int k v)) b t k n g := (h.set i v).congr fun j hj => (e j hj).symm
theorem Row.far (h : Row w b t k n f) {a : Addr} (ha : b ≠ a.block) (v : Value) : Row (w.setCell a v) b t k n f := World.rowIs.setOther h ha v
theorem Row.alloc (h : Row w b t k n f) (o : Obj) : Row (w.alloc o) b t k n f := World.rowIs.alloc h o
theorem Row.drew (h : Row w b t k n f) : Row w.drew b t k n f := h
theorem Row.drewN (h : Row w b t k n f) (m : Nat) : Row (w.drewN m) b t k n f := h
theorem Row.only {F : Nat → Prop} (h : Row w b t k n f) (hb : Only F w w') (hf : ¬ F b) : Row w' b t k n f := World.rowIs.of_block h (hb.block b h.lt hf)
theorem Row.below {B : Nat} (h : Row w b t k n f) (hb : Below B w w') (hf : b < B) : Row w' b t k n f := World.rowIs.of_block h (hb.block b hf)
end

theorem make_n (n : Nat) (hn : n ≤ 3000000) (w : World) : (Instr.makeSlice 24 (.int .i64 n) (.int .i64 n)).run Try.prog w = .ok (.slice (some ⟨w.heap.size, 0, none⟩) n n) (w.alloc (.cells (madeCells #[.int .i64 0] n) 3)) :=
  run_make_row' (P := Try.prog) 24 3 (.int .i64 0) 8 Try.underlying24 Try.info3 rfl .i64 .i64 n (by omega) (by omega) w
/-- What is told while it is reckoned. -/
def Tells (w0 wr : World) (l : List En) (G : Nat → Nat) : Prop := Row wr w0.heap.size 3 .i64 l.length (fun i => (G i : Int)) ∧ Below w0.heap.size w0 wr
theorem Tells.set {w0 wr : World} {l : List En} {G G' : Nat → Nat} (h : Tells w0 wr l G) (i v : Nat) (hG : ∀ j, j < l.length → G' j = if j = i then v else G j) : Tells w0 (wr.setCell ⟨w0.heap.size, i, none⟩ (.int .i64 v)) l G' :=
  ⟨h.1.setTo i v (fun j hj => by rw [hG j hj]; split <;> rfl), h.2.setCell (p := ⟨w0.heap.size, i, none⟩) (Nat.le_refl _) _⟩
theorem Tells.drewN {w0 wr : World} {l : List En} {G : Nat → Nat} (h : Tells w0 wr l G) (n : Nat) : Tells w0 (wr.drewN n) l G := ⟨h.1, below_drewN h.2 n⟩
def firstG (agent : ByteArray) (l : List En) (k : Nat) (j : Nat) : Nat := if j < k then startG agent l j else 0
theorem first_hit (agent : ByteArray) (l : List En) (k : Nat) (hk : k < l.length) (h : l[k].parent = agent) (j : Nat) : firstG agent l (k + 1) j = if j = k then 1 else firstG agent l k j := by
  unfold firstG
  by_cases c : j = k
  · subst c
    rw [if_pos (by omega), if_pos rfl]
    unfold startG
    rw [dif_pos hk, if_pos h]
  · rw [if_neg c]
    by_cases c2 : j < k
    · rw [if_pos c2, if_pos (by omega)]
    · rw [if_neg c2, if_neg (by omega)]
theorem first_miss (agent : ByteArray) (l : List En) (k : Nat) (hk : k < l.length) (h : ¬ l[k].parent = agent) (j : Nat) : firstG agent l (k + 1) j = firstG agent l k j := by
  unfold firstG
  by_cases c : j = k
  · subst c
    rw [if_pos (by omega), if_neg (by omega)]
    unfold startG
    rw [dif_pos hk, if_neg h]
  · by_cases c2 : j < k
    · rw [if_pos c2, if_pos (by omega)]
    · rw [if_neg c2, if_neg (by omega)]

def FarsP (agent : ByteArray) (l : List En) (d : ByteArray → Option Nat) (w : World) (e : Ending) (w' : World) : Prop :=
  ∃ r, e = .returned (.slice (some ⟨r, 0, none⟩) l.length l.length) ∧ w.heap.size ≤ r ∧ Row w' r 3 .i64 l.length (fun i => (farN agent d l i : Int)) ∧ Below w.heap.size w w'

set_option maxRecDepth 100000 in
set_option maxHeartbeats 4000000 in
theorem fars_any (A : Option Addr) (c : Nat) (l : List En) (agent : ByteArray) (d : ByteArray → Option Nat) (w : World) (h : EnsAt w A l) (hn : l.length ≤ 100) (hd : Done agent l d) :
    Calls Try.prog 24 #[.slice A l.length c, .string agent] w (FarsP agent l d w) := by
  have HE := Lib.hid h
  have HD := Lib.hid hd
  have hmk := make_n l.length (by omega)
  clear h hd
  go_enter Try.func24, Try.ntmps24
  go_wp2_with fail
  have T0 : Hid (Tells w (w.alloc (.cells (madeCells #[.int .i64 0] l.length) 3)) l (firstG agent l 0)) := Lib.hid ⟨Row.congr (k := .i64) (f := fun _ => 0) (World.rowIs_made w (.int .i64 0) l.length 3) (fun i _ => by show (0 : Int) = ((firstG agent l 0 i : Nat) : Int); unfold firstG; rw [if_neg (Nat.not_lt_zero i)]; rfl), (Below.refl _ _).alloc (Nat.le_refl _) _⟩
  generalize w.alloc (.cells (madeCells #[.int .i64 0] l.length) 3) = W0 at *
  clear hmk
  go_loopw [6] (fun q wr => ∃ k : Nat, k ≤ l.length ∧ q = .int .i64 k ∧ Hid (Tells w wr l (firstG agent l k))) (fun q _ => l.length - (intOf q).toNat)
  case atStart => exact ⟨0, by omega, rfl, T0⟩
  case round =>
    clear T0
    obtain ⟨k, hk, rfl, t1⟩ := hrel
    by_cases hlt : k < l.length
    · have k0 : (0 : Int) ≤ (k : Int) := by omega
      have k1 : (k : Int) < (l.length : Int) := by omega
      obtain ⟨b', o, rfl, hbl, hce⟩ := (HE.out.below t1.out.2).at_ (by omega)
      obtain ⟨z0, z1, z2, z3, z4⟩ := hce k hlt
      have xo := t1.out.1.cell (i := k) hlt
      have fz := t1.out.1.frozen k
      clear hce
      by_cases hp : l[k].parent = agent
      · have FG := Lib.hid (first_hit agent l k hlt hp)
        have e1 : (l[k].parent.toList == agent.toList) = true := by rw [hp]; exact beq_self_eq_true _
        clear hp
        generalize l[k] = e at *
        go_wp2_with fail
        go_roundw
        case rel => exact ⟨k + 1, by omega, by go_num, Lib.hid (t1.out.set k 1 (fun j hj => FG.out j))⟩
        case measure => simp [intOf]; omega
      · have FG := Lib.hid (first_miss agent l k hlt hp)
        have e1 : (l[k].parent.toList == agent.toList) = false := by rw [beq_eq_false_iff_ne, ne_eq, toList_eq_iff]; exact hp
        clear hp
        generalize l[k] = e at *
        go_wp2_with fail
        go_roundw
        case rel => exact ⟨k + 1, by omega, by go_num, Lib.hid ⟨t1.out.1.congr (fun j hj => by rw [FG.out j]), t1.out.2⟩⟩
        case measure => simp [intOf]; omega
    · have k1 : ¬ (k : Int) < (l.length : Int) := by omega
      have T1 : Hid (Tells w wr l (startG agent l)) := Lib.hid ⟨t1.out.1.congr (fun j hj => by unfold firstG; rw [if_pos (by omega)]), t1.out.2⟩
      have LW0 := Lib.hid (start_low HD.out)
      have UP0 := Lib.hid (upto_start HD.out)
      clear t1
      go_wp2_with fail
      go_loopw [7] (fun q wr => ∃ (r : Nat) (G : Nat → Nat), r ≤ l.length ∧ q = .int .i64 r ∧ Hid (Tells w wr l G) ∧ Hid (Low agent d l G) ∧ Hid (Upto agent d l G (r + 1) 0)) (fun q _ => l.length - (intOf q).toNat)
      case atStart => exact ⟨0, startG agent l, by omega, rfl, T1, LW0, UP0⟩
      case round =>
        clear T1 LW0 UP0
        obtain ⟨r, G, hr, rfl, t2, lw, up⟩ := hrel
        by_cases hlr : r < l.length
        · have r1 : (r : Int) < (l.length : Int) := by omega
          go_wp2_with fail
          go_loopw [8] (fun q wr => ∃ (i : Nat) (G : Nat → Nat), i ≤ l.length ∧ q = .int .i64 i ∧ Hid (Tells w wr l G) ∧ Hid (Low agent d l G) ∧ Hid (Upto agent d l G (r + 1) i)) (fun q _ => l.length - (intOf q).toNat)
          case atStart => exact ⟨0, G, by omega, rfl, t2, lw, up⟩
          case round =>
            clear t2 lw up
            obtain ⟨i, G, hi, rfl, t3, lw, up⟩ := hrel
            by_cases hli : i < l.length
            · have i0 : (0 : Int) ≤ (i : Int) := by omega
              have i1 : (i : Int) < (l.length : Int) := by omega
              go_wp2_with fail
              go_loopw [9] (fun q wr => ∃ (k : Nat) (G : Nat → Nat), k ≤ l.length ∧ q = .int .i64 k ∧ Hid (Tells w wr l G) ∧ Hid (Low agent d l G) ∧ Hid (Upto agent d l G (r + 1) i) ∧ Hid (Seen agent d l G (r + 1) i k)) (fun q _ => l.length - (intOf q).toNat)
              case atStart => exact ⟨0, G, by omega, rfl, t3, lw, up, Lib.hid (seen_none (r + 1) i)⟩
              case round =>
                clear t3 lw up
                obtain ⟨k, G, hk, rfl, t4, lw, up, sn⟩ := hrel
                by_cases hlk : k < l.length
                · have k0 : (0 : Int) ≤ (k : Int) := by omega
                  have k1 : (k : Int) < (l.length : Int) := by omega
                  obtain ⟨b', o, rfl, hbl, hce⟩ := (HE.out.below t4.out.2).at_ (by omega)
                  have zk := (hce k hlk).2.1
                  have zi := (hce i hli).2.2.1
                  have xk := t4.out.1.cell (i := k) hlk
                  have xi := t4.out.1.cell (i := i) hli
                  have fz := t4.out.1.frozen i
                  have gk : G k ≤ 100 := by have := lw.out.bnd k hlk; have := nz_le l.length G; omega
                  have gi : G i ≤ 100 := by have := lw.out.bnd i hli; have := nz_le l.length G; omega
                  have LY := Lib.hid (fun a b c => look_yes HD.out lw.out (r + 1) i k hli hlk (by omega) up.out sn.out a b c)
                  have LN := Lib.hid (fun a => look_no (r + 1) i k hlk (by omega) up.out sn.out hli a)
                  have TS := Lib.hid (fun G' hG => t4.out.set (G' := G') i (G k + 1) hG)
                  clear hce
                  have wk : IntKind.i64.wrap ((G k : Int) + 1) = (G k : Int) + 1 := IntWalk.i64_in _ (by omega)
                  by_cases hg : 0 < G k
                  · have g1 : (G k : Int) > 0 := by omega
                    by_cases hpe : l[k].path = l[i].parent
                    · have e1 : (l[k].path.toList == l[i].parent.toList) = true := by rw [hpe]; exact beq_self_eq_true _
                      by_cases g0 : G i = 0
                      · have h0 : (G i : Int) = 0 := by omega
                        have h0' : decide ((G i : Int) = 0) = true := decide_eq_true h0
                        clear LN
                        have LY2 := Lib.hid (LY.out (by omega) hpe (by omega))
                        have T5 := Lib.hid (TS.out (setN G i (G k + 1)) (fun j _ => rfl))
                        have tc : ((G k + 1 : Nat) : Int) = (G k : Int) + 1 := by omega
                        rw [tc] at T5
                        clear LY TS hpe
                        generalize l[k].path = pk at *
                        generalize l[i].parent = qi at *
                        go_wp2_with fail
                        go_quiet (fail)
                        go_wp2_with fail
                        go_roundw
                        case rel => exact ⟨k + 1, setN G i (G k + 1), by omega, by go_num, Lib.hid (T5.out.drewN _), Lib.hid LY2.out.1, Lib.hid LY2.out.2.1, Lib.hid LY2.out.2.2⟩
                        case measure => simp [intOf]; omega
                      · have h0 : ¬ (G i : Int) = 0 := by omega
                        have h0b : ((G i : Int) == 0) = false := by simpa using h0
                        by_cases g2 : G k + 1 < G i
                        · have h2 : (G i : Int) > (G k : Int) + 1 := by omega
                          clear LN
                          have LY2 := Lib.hid (LY.out (by omega) hpe (by omega))
                          have T5 := Lib.hid (TS.out (setN G i (G k + 1)) (fun j _ => rfl))
                          have tc : ((G k + 1 : Nat) : Int) = (G k : Int) + 1 := by omega
                          rw [tc] at T5
                          clear LY TS hpe
                          generalize l[k].path = pk at *
                          generalize l[i].parent = qi at *
                          go_wp2_with fail
                          go_quiet (fail)
                          go_wp2_with fail
                          go_roundw
                          case rel => exact ⟨k + 1, setN G i (G k + 1), by omega, by go_num, Lib.hid (T5.out.drewN _), Lib.hid LY2.out.1, Lib.hid LY2.out.2.1, Lib.hid LY2.out.2.2⟩
                          case measure => simp [intOf]; omega
                        · have h2 : ¬ (G i : Int) > (G k : Int) + 1 := by omega
                          have SN := Lib.hid (LN.out (by rintro ⟨_, _, h | h⟩ <;> omega))
                          clear LN hpe
                          generalize l[k].path = pk at *
                          generalize l[i].parent = qi at *
                          clear LY TS
                          go_wp2_with fail
                          go_quiet (fail)
                          go_wp2_with fail
                          go_roundw
                          case rel => exact ⟨k + 1, G, by omega, by go_num, Lib.hid (t4.out.drewN _), lw, up, SN⟩
                          case measure => simp [intOf]; omega
                    · have e1 : (l[k].path.toList == l[i].parent.toList) = false := by rw [beq_eq_false_iff_ne, ne_eq, toList_eq_iff]; exact hpe
                      have SN := Lib.hid (LN.out (fun h => hpe h.2.1))
                      clear LN hpe
                      generalize l[k].path = pk at *
                      generalize l[i].parent = qi at *
                      clear LY TS
                      go_wp2_with fail
                      go_quiet (fail)
                      go_wp2_with fail
                      go_roundw
                      case rel => exact ⟨k + 1, G, by omega, by go_num, Lib.hid (t4.out.drewN _), lw, up, SN⟩
                      case measure => simp [intOf]; omega
                  · have g1 : ¬ (G k : Int) > 0 := by omega
                    have SN := Lib.hid (LN.out (fun h => hg h.1))
                    clear LN
                    clear LY TS
                    go_wp2_with fail
                    go_quiet (fail)
                    go_wp2_with fail
                    go_roundw
                    case rel => exact ⟨k + 1, G, by omega, by go_num, Lib.hid (t4.out.drewN _), lw, up, SN⟩
                    case measure => simp [intOf]; omega
                · have k1 : ¬ (k : Int) < (l.length : Int) := by omega
                  have SN : Hid (Seen agent d l G (r + 1) i l.length) := Lib.hid (by have := sn.out; rw [show k = l.length by omega] at this; exact this)
                  have UP := Lib.hid (seen_all HD.out (r + 1) i hli (by omega) up.out SN.out)
                  go_wp2_with fail
                  go_roundw
                  case rel => exact ⟨i + 1, G, by omega, by go_num, t4, lw, UP⟩
                  case measure => simp [intOf]; omega
            · have i1 : ¬ (i : Int) < (l.length : Int) := by omega
              have UP : Hid (Upto agent d l G (r + 1 + 1) 0) := Lib.hid (upto_round (r + 1) (by have := up.out; rw [show i = l.length by omega] at this; exact this))
              go_wp2_with fail
              go_roundw
              case rel => exact ⟨r + 1, G, by omega, by go_num, t3, lw, UP⟩
              case measure => simp [intOf]; omega
        · have r1 : ¬ (r : Int) < (l.length : Int) := by omega
          have EN := Lib.hid (fun i hi => upto_end HD.out lw.out (by have := up.out; rw [show r = l.length by omega] at this; exact this) i hi)
          go_wp2_with fail
          go_ret
          exact ⟨_, rfl, Nat.le_refl _, t2.out.1.congr (fun i hi => by rw [EN.out i hi]), t2.out.2⟩
end Go.Proofs.Ytcbfmpnkadkpdaa
