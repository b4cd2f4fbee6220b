/- Entries of one's own; May: the walk. -/
import Derived.Test.YtcbfmpnkadkpdaaC6
set_option linter.unusedVariables false
namespace Go.Proofs.Ytcbfmpnkadkpdaa
open Go.RowKit Go.Maps

/-- Entries of one's own, from block base on: the row, and the texts of each. -/
structure OwnEns (w : World) (base : Nat) (A : Option Addr) (c : Nat) (M : List En) : Prop where
  row : w.ownsRow base 28 5 (.slice A M.length c) M.length (ens M)
  sel : ∀ x ∈ M, SelOwn w base x
  apart : M.Pairwise fun x y => ∀ k, (Value.slice x.A x.sel.length x.c).ownBlock = some k → (Value.slice y.A y.sel.length y.c).ownBlock ≠ some k
theorem OwnEns.nil (w : World) (base : Nat) : OwnEns w base none 0 [] := ⟨World.ownsRow_nil _ _ _ _, fun _ h => absurd h (List.not_mem_nil), List.Pairwise.nil⟩
theorem own_types {w : World} {base base' n n' s s' : Nat} {e e' : TypeId} {v v' : Value} {xs xs' : List Value} (h : w.ownsRow base e s v n xs) (h' : w.ownsRow base' e' s' v' n' xs') (hne : e ≠ e') (k : Nat) (hk : v.ownBlock = some k) : v'.ownBlock ≠ some k := by
  intro hk'
  rcases h.2 with ⟨rfl, _⟩ | ⟨g, cap, cur, rfl, _, hh, _⟩
  · simp [Value.ownBlock] at hk
  · rcases h'.2 with ⟨rfl, _⟩ | ⟨g', cap', cur', rfl, _, hh', _⟩
    · simp [Value.ownBlock] at hk'
    · have e1 : g = k := by simpa [Value.ownBlock] using hk
      have e2 : g' = k := by simpa [Value.ownBlock] using hk'
      subst e1; subst e2
      rw [hh] at hh'
      injection hh' with hh'
      injection hh' with _ ht
      exact hne ht
theorem OwnEns.only {w w' : World} {base : Nat} {A : Option Addr} {c : Nat} {M : List En} {F : Nat → Prop} (h : OwnEns w base A c M) (hb : Only F w w') (hf : ∀ k, base ≤ k → k < w.heap.size → ¬ F k) : OwnEns w' base A c M :=
  ⟨own_only h.row hb fun k hk => hf k (own_lt h.row hk).1 (own_lt h.row hk).2, fun x hx => own_only (h.sel x hx) hb fun k hk => hf k (own_lt (h.sel x hx) hk).1 (own_lt (h.sel x hx) hk).2, h.apart⟩
theorem OwnEns.below {w w' : World} {base : Nat} {A : Option Addr} {c : Nat} {M : List En} (h : OwnEns w base A c M) (hb : Below w.heap.size w w') : OwnEns w' base A c M :=
  h.only (F := fun _ => False) (Only.of_below hb) (fun _ _ _ h => h)
/-- One more, whose texts are new. -/
theorem OwnEns.push {w w1 : World} {base B : Nat} {A A1 : Option Addr} {c c1 : Nat} {M : List En} {x : En} (h : OwnEns w base A c M) (hx : SelOwn w B x) (hxb : base ≤ B) (hnew : ∀ y ∈ M, ∀ k, (Value.slice y.A y.sel.length y.c).ownBlock = some k → k < B)
    (hrow : w1.ownsRow base 28 5 (.slice A1 (M.length + 1) c1) (M.length + 1) (ens M ++ x.cells)) (hg : w.grownBy w1 (Value.slice A M.length c).ownBlock) : OwnEns w1 base A1 c1 (M ++ [x]) := by
  have ho : Only (fun k => (Value.slice A M.length c).ownBlock = some k) w w1 := (Only.refl _ w).grown hg (fun k hk => .inl hk)
  have hx' : SelOwn w base x := own_weaken hx hxb
  refine ⟨by rw [List.length_append, List.length_singleton, ens_append, ens_one]; exact hrow, fun y hy => ?_, ?_⟩
  · rcases List.mem_append.1 hy with hy | hy
    · exact own_only (h.sel y hy) ho fun k hk hr => own_types h.row (h.sel y hy) (by decide) k hr hk
    · rw [List.mem_singleton.1 hy]
      exact own_only hx' ho fun k hk hr => own_types h.row hx' (by decide) k hr hk
  · rw [List.pairwise_append]
    refine ⟨h.apart, List.pairwise_singleton _ _, fun y hy z hz k hk hk' => ?_⟩
    rw [List.mem_singleton.1 hz] at hk'
    have h1 := hnew y hy k hk
    have h2 := (own_lt hx hk').1
    omega
theorem OwnEns.ens {w : World} {base : Nat} {A : Option Addr} {c : Nat} {M : List En} (h : OwnEns w base A c M) (hz : ∀ e ∈ M, e.sel.length * 16 ≤ 140737488355328) : EnsAt w A M :=
  own_ens h.row rfl fun e he => ⟨strs_at (h.sel e he) rfl, hz e he, fun hn => by
    rcases (h.sel e he).2 with ⟨h1, h2⟩ | ⟨g, cap, cur, h1, _⟩
    · injection h1 with h1 h2' h3
      exact ⟨h2', h3⟩
    · injection h1 with h1
      rw [hn] at h1
      cases h1⟩

/-- Is there a way from it? -/
def isF (agent : ByteArray) (d : ByteArray → Option Nat) (e : En) : Bool := (stepR agent d e).isSome
def mayC (agent : ByteArray) (d : ByteArray → Option Nat) (l : List En) : List En := l.filter (isF agent d)
theorem filter_snoc (p : En → Bool) (l : List En) (k : Nat) (h : k < l.length) : (l.take (k + 1)).filter p = (l.take k).filter p ++ if p l[k] then [l[k]] else [] := by
  rw [List.take_succ_eq_append_getElem h, List.filter_append]
  simp only [List.filter_cons, List.filter_nil]
theorem map_own_ne {w : World} {b N base n s : Nat} {agent : ByteArray} {d : ByteArray → Option Nat} {e : TypeId} {v : Value} {xs : List Value} (h : MapR w b N agent d) (h' : w.ownsRow base e s v n xs) : v.ownBlock ≠ some b := by
  intro hk
  obtain ⟨D, ⟨es, clock, h1, h2⟩, h3⟩ := h
  rcases h'.2 with ⟨rfl, _⟩ | ⟨g, cap, cur, rfl, _, hh, _⟩
  · simp [Value.ownBlock] at hk
  · have e1 : g = b := by simpa [Value.ownBlock] using hk
    subst e1
    rw [hh] at h1
    cases h1
/-- What May tells. -/
def MayP (A : Option Addr) (agent : ByteArray) (l : List En) (w : World) (e : Ending) (w' : World) : Prop :=
  ∃ A1 c1 M d, e = .returned (.slice A1 M.length c1) ∧ OwnEns w' w.heap.size A1 c1 M ∧ Done agent l d ∧ M.map core = (mayC agent d l).map core ∧ Below w.heap.size w w'

set_option maxRecDepth 100000 in
set_option maxHeartbeats 4000000 in
theorem may_any (A : Option Addr) (c : Nat) (l : List En) (agent : ByteArray) (w : World) (h : EnsAt w A l) (hn : l.length ≤ 100) (ha : agent.size ≤ maxLen) (hsz : ∀ e ∈ l, e.path.size ≤ maxLen ∧ e.parent.size ≤ maxLen) :
    Calls Try.prog 13 #[.slice A l.length c, .string agent] w (MayP A agent l w) := by
  obtain ⟨i0, hi0, hz0, hz1, hz2⟩ := info_parts Try.info28
  have F := Lib.hid (far_any A c l agent w h hn ha hsz)
  have HE := Lib.hid h
  have HZ := Lib.hid hsz
  have k1 : ¬ (l.length : Int) > 100 := by omega
  clear h hsz
  go_enter Try.func13, Try.ntmps13
  go_upto_region 4 with (go_at_call 21; (with_reducible refine F.out.mono ?_); rintro en w1 ⟨b, N, d, rfl, b1, m1, d1, h1⟩; have M1 := Lib.hid m1; have D1 := Lib.hid d1; have H1 := Lib.hid h1; clear m1 d1 h1)
  go_wp2_with fail
  go_loopw [6, 19] (fun ov q wr => ∃ (k : Nat) (A1 : Option Addr) (c1 : Nat) (M : List En), k ≤ l.length ∧ q = .int .i64 k ∧ ov = .slice A1 M.length c1 ∧ Hid (OwnEns wr w.heap.size A1 c1 M) ∧ Hid (M.map core = (mayC agent d (l.take k)).map core) ∧ Hid (MapR wr b N agent d) ∧ Hid (Below w.heap.size w wr)) (fun _ q _ => l.length - (intOf q).toNat)
  case atStart => exact ⟨0, none, 0, [], by omega, rfl, rfl, Lib.hid (OwnEns.nil _ _), Lib.hid rfl, M1, H1⟩
  case round =>
    clear M1 H1
    obtain ⟨k, A1, c1, M, hk, rfl, rfl, o1, e1, m1, h1⟩ := hrel
    by_cases hlt : k < l.length
    · have k0 : (0 : Int) ≤ (k : Int) := by omega
      have k1 : (k : Int) < (l.length : Int) := by omega
      obtain ⟨b', o, rfl, hbl, hce⟩ := (HE.out.below h1.out).at_ (by omega)
      obtain ⟨z0, z1, z2, z3, z4⟩ := hce k hlt
      have he := List.getElem_mem hlt
      have SL := Lib.hid ((HE.out.below h1.out).sel _ he)
      have hp2 := (HZ.out _ he).2
      have hbd := bound_step D1.out.way hn
      have FSn := Lib.hid (filter_snoc (isF agent d) l k hlt)
      have LM : M.length ≤ 100 := by
        have := congrArg List.length e1.out
        rw [List.length_map, List.length_map] at this
        have h2 := List.length_filter_le (isF agent d) (l.take k)
        rw [List.length_take] at h2
        unfold mayC at this
        omega
      clear hce he
      generalize l[k] = e at *
      have H2 := Lib.hid (h1.out.alloc h1.out.size (.cells #[.int .i64 e.n, .string e.path, .string e.parent, .int .i64 e.ttl, .slice e.A e.sel.length e.c] 28))
      have sc := step_any b N agent d e (wr.alloc (.cells #[.int .i64 e.n, .string e.path, .string e.parent, .int .i64 e.ttl, .slice e.A e.sel.length e.c] 28)) (m1.out.below ((Below.refl _ _).alloc (Nat.le_refl _) _)) hp2 (fun p n hp => by have := hbd p n hp; omega)
      have M2 : Hid (MapR ((wr.alloc (.cells #[.int .i64 e.n, .string e.path, .string e.parent, .int .i64 e.ttl, .slice e.A e.sel.length e.c] 28)).alloc (.cells #[.int .i64 e.n, .string e.path, .string e.parent, .int .i64 e.ttl, .slice e.A e.sel.length e.c] 28)) b N agent d) := Lib.hid ((m1.out.below ((Below.refl _ _).alloc (Nat.le_refl _) _)).below ((Below.refl _ _).alloc (Nat.le_refl _) _))
      have O2 : Hid (OwnEns ((wr.alloc (.cells #[.int .i64 e.n, .string e.path, .string e.parent, .int .i64 e.ttl, .slice e.A e.sel.length e.c] 28)).alloc (.cells #[.int .i64 e.n, .string e.path, .string e.parent, .int .i64 e.ttl, .slice e.A e.sel.length e.c] 28)) w.heap.size A1 c1 M) := Lib.hid ((o1.out.below ((Below.refl _ _).alloc (Nat.le_refl _) _)).below ((Below.refl _ _).alloc (Nat.le_refl _) _))
      have H3 : Hid (Below w.heap.size w ((wr.alloc (.cells #[.int .i64 e.n, .string e.path, .string e.parent, .int .i64 e.ttl, .slice e.A e.sel.length e.c] 28)).alloc (.cells #[.int .i64 e.n, .string e.path, .string e.parent, .int .i64 e.ttl, .slice e.A e.sel.length e.c] 28))) := Lib.hid (H2.out.alloc H2.out.size _)
      have S3 := Lib.hid ((SL.out.1.below ((Below.refl _ _).alloc (Nat.le_refl _) (.cells #[.int .i64 e.n, .string e.path, .string e.parent, .int .i64 e.ttl, .slice e.A e.sel.length e.c] 28))).below ((Below.refl _ _).alloc (Nat.le_refl _) (.cells #[.int .i64 e.n, .string e.path, .string e.parent, .int .i64 e.ttl, .slice e.A e.sel.length e.c] 28)))
      clear h1 m1 o1
      cases hs : stepR agent d e with
      | none =>
        rw [hs] at sc
        have SC : Hid (Calls Try.prog 22 #[.map (some b), e.agg] (wr.alloc (.cells #[.int .i64 e.n, .string e.path, .string e.parent, .int .i64 e.ttl, .slice e.A e.sel.length e.c] 28)) fun en w' => en = .returned (.tuple #[.int .i64 1, .bool false]) ∧ w' = (wr.alloc (.cells #[.int .i64 e.n, .string e.path, .string e.parent, .int .i64 e.ttl, .slice e.A e.sel.length e.c] 28)).alloc (.cells #[.int .i64 e.n, .string e.path, .string e.parent, .int .i64 e.ttl, .slice e.A e.sel.length e.c] 28)) := Lib.hid sc
        have E2 : Hid (M.map core = (mayC agent d (l.take (k + 1))).map core) := Lib.hid (by
          unfold mayC
          rw [FSn.out, if_neg (by unfold isF; rw [hs]; decide), List.append_nil]
          exact e1.out)
        clear sc hs e1
        go_wp2_with (go_at_call 22; (with_reducible refine SC.out.mono ?_); rintro en w2 ⟨rfl, rfl⟩)
        go_roundw
        case rel => exact ⟨k + 1, A1, c1, M, by omega, by go_num, rfl, O2, E2, M2, H3⟩
        case measure => simp [intOf]; omega
      | some m =>
        rw [hs] at sc
        have SC : Hid (Calls Try.prog 22 #[.map (some b), e.agg] (wr.alloc (.cells #[.int .i64 e.n, .string e.path, .string e.parent, .int .i64 e.ttl, .slice e.A e.sel.length e.c] 28)) fun en w' => en = .returned (.tuple #[.int .i64 m, .bool true]) ∧ w' = (wr.alloc (.cells #[.int .i64 e.n, .string e.path, .string e.parent, .int .i64 e.ttl, .slice e.A e.sel.length e.c] 28)).alloc (.cells #[.int .i64 e.n, .string e.path, .string e.parent, .int .i64 e.ttl, .slice e.A e.sel.length e.c] 28)) := Lib.hid sc
        have E2 : Hid ((mayC agent d (l.take (k + 1))).map core = M.map core ++ [core e]) := Lib.hid (by
          unfold mayC
          rw [FSn.out, if_pos (by unfold isF; rw [hs]; rfl), List.map_append, e1.out]
          rfl)
        have OW := Lib.hid (own_any e _ S3.out SL.out.2.1 SL.out.2.2)
        clear sc hs e1
        go_wp2_with (first
          | (go_at_call 22; (with_reducible refine SC.out.mono ?_); rintro en w2 ⟨rfl, rfl⟩)
          | (go_at_call 25; (with_reducible refine OW.out.mono ?_); rintro en w3 ⟨A3, c3, rfl, s3, b3⟩; have S5 := Lib.hid s3; have B3 := Lib.hid b3; clear s3 b3; have O3 := Lib.hid (O2.out.below B3.out); have M3 := Lib.hid (M2.out.below B3.out); have H4 := Lib.hid (H3.out.trans (B3.out.mono H3.out.size)))
          | (at_builtin; refine wpList_append_own _ rfl (.tmp 30) (.tmp 33) 22 rfl w.heap.size 28 i0 _ 5 72 Try.underlying22 hi0 hz0 hz1 hz2 rfl (by omega) _ M.length (ens M) rfl (O3.out.row.alloc _) ⟨w3.heap.size, 0, none⟩ 1 1 [.int .i64 e.n, .string e.path, .string e.parent, .int .i64 e.ttl, .slice A3 e.sel.length c3] rfl rfl ?c1 ?c2 ?c3 ?c4 ?c5 ?_))
        case c1 => exact World.news_of_block (cs := #[.int .i64 e.n, .string e.path, .string e.parent, .int .i64 e.ttl, .slice A3 e.sel.length c3]) (t := 28) (fr := (0, 0)) (heap_alloc_new w3 _)
        case c2 => simp [Value.oneCell']
        case c3 => unfold maxLen; omega
        case c4 => omega
        case c5 => rw [World.size_alloc]; have := H4.out.size; omega
        intro v' w5 hown5 hgrow5 _
        obtain ⟨A5, c5, rfl⟩ := own_shape hown5
        have O5 : Hid (OwnEns w5 w.heap.size A5 c5 (M ++ [{ e with A := A3, c := c3 }])) := Lib.hid (OwnEns.push (w := w3.alloc (.cells #[.int .i64 e.n, .string e.path, .string e.parent, .int .i64 e.ttl, .slice A3 e.sel.length c3] 28)) (O3.out.below ((Below.refl _ _).alloc (Nat.le_refl _) _)) (x := { e with A := A3, c := c3 }) (World.ownsRow.alloc S5.out _) H3.out.size (fun y hy kk hkk => (own_lt (O2.out.sel y hy) hkk).2) hown5 hgrow5)
        have L5 : Hid ((M ++ [({ e with A := A3, c := c3 } : En)]).map core = (mayC agent d (l.take (k + 1))).map core) := Lib.hid (by rw [E2.out, List.map_append]; rfl)
        have M5 : Hid (MapR w5 b N agent d) := Lib.hid (MapR.only (F := fun k => (Value.slice A1 M.length c1).ownBlock = some k) (M3.out.below ((Below.refl _ _).alloc (Nat.le_refl _) _)) ((Only.refl _ _).grown hgrow5 (fun kk hkk => .inl hkk)) (fun hkk => map_own_ne M3.out O3.out.row hkk))
        have B5 : Hid (Below w.heap.size w w5) := Lib.hid ((H4.out.alloc H4.out.size _).grown hgrow5 (by rw [World.size_alloc]; have := H4.out.size; omega) (fun kk hkk => (own_lt O3.out.row hkk).1))
        clear hown5 hgrow5
        rw [show M.length + 1 = (M ++ [({ e with A := A3, c := c3 } : En)]).length by rw [List.length_append, List.length_singleton]]
        go_wp2_with fail
        go_roundw
        case rel => exact ⟨k + 1, A5, c5, M ++ [{ e with A := A3, c := c3 }], by omega, by go_num, rfl, O5, L5, M5, B5⟩
        case measure => simp [intOf]; omega
    · have k1 : ¬ (k : Int) < (l.length : Int) := by omega
      have E2 : Hid (M.map core = (mayC agent d l).map core) := Lib.hid (by
        have := e1.out
        rw [List.take_of_length_le (by omega : l.length ≤ k)] at this
        exact this)
      go_wp2_with fail
      go_ret
      exact ⟨A1, c1, M, d, rfl, o1.out, D1.out, E2.out, h1.out⟩
end Go.Proofs.Ytcbfmpnkadkpdaa
