/- The library's functions with a predicate, at entries: IndexFunc, DeleteFunc: the walks. -/
import Derived.Test.YtcbfmpnkadkpdaaC7
set_option linter.unusedVariables false
namespace Go.Proofs.Ytcbfmpnkadkpdaa
open Go.RowKit

/-- What is asked of a predicate: wherever I holds it tells p of the entries of l, and turns nothing. -/
structure Pred (I : World → Prop) (g : Nat) (lb : Array Value) (p : En → Bool) (l : List En) : Prop where
  call : ∀ W x, x ∈ l → I W → Calls Try.prog g (#[x.agg] ++ lb) W fun e w' => e = .returned (.bool (p x)) ∧ Below W.heap.size W w'
  keep : ∀ W W', I W → Below W.heap.size W W' → I W'
  enters : ∀ args w, (callFunc g args).run Try.prog w = .ok (.enter g args) w

/-- Where the first one is of which p holds. -/
def Idx (p : En → Bool) (l : List En) (r : Int) : Prop :=
  (r = -1 ∧ ∀ k, (h : k < l.length) → p l[k] = false) ∨ ∃ k : Nat, r = k ∧ ∃ h : k < l.length, p l[k] = true ∧ ∀ j, (hj : j < k) → p (l[j]'(Nat.lt_trans hj h)) = false

set_option maxHeartbeats 1000000 in
theorem index_any (I : World → Prop) (f : Nat) (lb : Array Value) (p : En → Bool) (l : List En) (hp : Pred I f lb p l) (A : Option Addr) (c : Nat) (w : World) (hI : I w) (hl : l.length ≤ 1000000) (hA : EnsAt w A l) :
    Calls Try.prog 19 #[.slice A l.length c, .func (.func f) #[] lb] w fun e w' => ∃ r, e = .returned (.int .i64 r) ∧ Idx p l r ∧ Below w.heap.size w w' := by
  have hp1 := Lib.hid hp.call
  have hp2 := Lib.hid hp.keep
  have eg := hp.enters
  have HA := Lib.hid hA
  clear hA hp
  go_enter Try.func19, Try.ntmps19
  go_wp2_with fail
  go_loopw [5, 8] (fun _ q wr => ∃ k : Nat, k ≤ l.length ∧ q = .int .i64 k ∧ Hid (∀ j, (h : j < l.length) → j < k → p l[j] = false) ∧ I wr ∧ Below w.heap.size w wr) (fun _ q _ => l.length - (intOf q).toNat)
  case atStart => exact ⟨0, by omega, rfl, Lib.hid fun j _ h => by omega, hI, Below.refl _ _⟩
  case round =>
    obtain ⟨k, hk, rfl, hq, hi, hb⟩ := hrel
    by_cases hlt : k < l.length
    · obtain ⟨b', o, rfl, hbl, hce⟩ := (HA.out.below hb).at_ (by omega)
      obtain ⟨x0, x1, x2, x3, x4⟩ := hce k hlt
      have k0 : (0 : Int) ≤ (k : Int) := by omega
      have k1 : (k : Int) < (l.length : Int) := by omega
      have HB := Lib.hid hb
      have C := Lib.hid (hp1.out wr l[k] (List.getElem_mem hlt) hi)
      have K := Lib.hid (fun w' h => hp2.out wr w' hi h)
      clear hce hi hb
      cases hpk : p l[k] with
      | true =>
        have HF : Hid (Idx p l k) := Lib.hid (.inr ⟨k, rfl, hlt, hpk, fun j hj => hq.out j _ hj⟩)
        rw [hpk] at C
        clear hpk hq
        generalize l[k] = x at *
        go_wp2_with (go_at_fn f; refine C.out.mono ?_; rintro e w' ⟨rfl, hb'⟩; have HB' := Lib.hid hb'; clear hb')
        go_ret
        exact ⟨_, rfl, HF.out, HB.out.trans (HB'.out.mono HB.out.size)⟩
      | false =>
        have HF : Hid (∀ j, (h : j < l.length) → j < k + 1 → p l[j] = false) := Lib.hid fun j h hj => by
          by_cases c : j = k
          · subst c; exact hpk
          · exact hq.out j h (by omega)
        rw [hpk] at C
        clear hpk hq
        generalize l[k] = x at *
        go_wp2_with (go_at_fn f; refine C.out.mono ?_; rintro e w' ⟨rfl, hb'⟩; have HB' := Lib.hid hb'; clear hb')
        go_roundw
        case rel => exact ⟨k + 1, by omega, by go_num, HF, K.out _ HB'.out, HB.out.trans (HB'.out.mono HB.out.size)⟩
        case measure => simp [intOf]; omega
    · have k1 : ¬ (k : Int) < (l.length : Int) := by omega
      have HF : Hid (Idx p l (-1)) := Lib.hid (.inl ⟨rfl, fun j h => hq.out j h (by omega)⟩)
      have HB := Lib.hid hb
      clear hb hq hi
      go_wp2_with fail
      go_ret
      exact ⟨_, rfl, HF.out, HB.out⟩
theorem own_cur {w : World} {base g n cap : Nat} {l : List En} (hown : w.ownsRow base 28 5 (.slice (some ⟨g, 0, none⟩) n cap) n (ens l)) :
    ∃ cur, base ≤ g ∧ Blk w g 28 cur ∧ n ≤ cap ∧ cap ≤ maxLen ∧ cur.size = cap * 5 ∧ cur.toList.take (n * 5) = ens l := by
  rcases hown.2 with ⟨h, _⟩ | ⟨g', cap', cur, hv, r1, r2, r3, r4, r5, r6⟩
  · cases h
  · injection hv with h1 h2 h3
    injection h1 with h1
    injection h1 with h1
    subst h1; subst h3
    exact ⟨cur, r1, r2, r3, r4, r5, r6⟩
theorem Blk.setCells_far {t : TypeId} {g B : Nat} {cs : Array Value} (hg : B ≠ g) : ∀ (vs : List Value) (o : Nat) (w : World), Blk w B t cs → Blk (w.setCells g o vs) B t cs
  | [], _, _, h => h
  | v :: vs, o, _, h => Blk.setCells_far hg vs (o + 1) _ (h.far (p := ⟨g, o, none⟩) hg v)

def zc : Array Value := #[.int .i64 0, .string ⟨#[]⟩, .string ⟨#[]⟩, .int .i64 0, .slice none 0 0]
def zs (m : Nat) : List Value := (Builtin.zeroCells zc m).toList
theorem zs_len (m : Nat) : (zs m).length = m * 5 := by
  unfold zs
  rw [Array.length_toList, size_zeroCells]
  rfl
theorem zs_one (m : Nat) : ∀ u ∈ zs m, u.oneCell' = true := by
  intro u hu
  have key : ∀ r, r < 5 → (zc[r]!).oneCell' = true := by decide
  simp only [zs, Builtin.zeroCells, Array.toList_map, List.mem_map] at hu
  obtain ⟨i, _, rfl⟩ := hu
  exact key _ (Nat.mod_lt _ (by decide))

/-- clear, of some tokens. -/
theorem run_clear (w : World) (ty : TypeId) (b o m c : Nat) (hm : 0 < m)
    (hc : ∀ j, j < m * 5 → (w.cell? ⟨b, o + j, none⟩).isSome = true) (hf : ∀ j, j < m * 5 → w.frozen? ⟨b, o + j, none⟩ = false) :
    (Builtin.clear_ #[22] ty #[.slice (some ⟨b, o, none⟩) m c]).run Try.prog w = .ok (.tuple #[]) (w.setCells b o (zs m)) := by
  have hv : ∀ w, (zeroValue 28).run Try.prog w = .ok (.agg zc) w := fun w => by kernel_rfl
  have hst := run_storeCells_cells (P := Try.prog) b o (zs m) 0 w (by rw [zs_len]; simpa using hc) (by rw [zs_len]; simpa using hf) (zs_one m)
  simp only [Nat.add_zero] at hst
  have hzc : (Builtin.zeroCells (Value.agg zc).cells m).toList = zs m := rfl
  obtain ⟨k, rfl⟩ : ∃ k, m = k + 1 := ⟨m - 1, by omega⟩
  simp [Builtin.clear_, run_underlying Try.underlying22, hv, hzc, hst]

theorem wpList_clear {w w' : World} {ops : Array Oper} {rest : List Oper} {o : Oper} {a : Act} {Q : Exit → Act → World → Prop} (hg : o.guard = none) (x : Operand)
    (hop : o.op = Op.call { callee := Callee.builtin Builtin.clear, args := #[x], argTypes := #[22] }) (ad : Addr) (n c : Nat) (hx : a.eval x = .slice (some ad) n c)
    (hrun : ∀ ty, (Builtin.clear_ #[22] ty #[.slice (some ad) n c]).run Try.prog w = .ok (.tuple #[]) w') (h : wpList Try.prog ops Q rest (a.put o.dst (.tuple #[])) w') : wpList Try.prog ops Q (o :: rest) a w := by
  refine wpList_plain hg fun K hK' => ?_
  unfold Oper.wp
  simp [execOp, hop, resolve, invoke, builtin, hx, hrun, Result.andThen]
  exact hK' _ _ h

/-- One token put over another one. -/
theorem take_splice (cur : Array Value) (ys : List En) (i cap : Nat) (x : En) (hs : cur.size = cap * 5) (hi : i < ys.length) (hcap : ys.length ≤ cap) (ht : cur.toList.take (ys.length * 5) = ens ys) :
    (splice cur (i * 5) x.cells).toList.take (ys.length * 5) = ens (ys.set i x) := by
  have hl : cur.toList.length = cap * 5 := by rw [Array.length_toList, hs]
  rw [← ens_set ys i x hi, ← ht]
  simp only [splice, cells_len, List.take_append, List.length_take, List.length_append, hl]
  rw [List.take_take, List.drop_take, Nat.min_eq_right (by omega : i * 5 ≤ ys.length * 5), Nat.min_eq_left (by omega : i * 5 ≤ cap * 5), List.take_take, Nat.min_eq_left (by omega : i * 5 ≤ ys.length * 5),
    List.take_of_length_le (show x.cells.length ≤ ys.length * 5 - i * 5 by rw [cells_len]; omega)]
/-- Zeros behind the first ones. -/
theorem take_splice_low (cur : Array Value) (i : Nat) (vs : List Value) (h : i * 5 + vs.length ≤ cur.size) : (splice cur (i * 5) vs).toList.take (i * 5) = cur.toList.take (i * 5) := by
  have hl : i * 5 ≤ cur.toList.length := by rw [Array.length_toList]; omega
  simp only [splice]
  rw [List.take_append_of_le_length (by simp only [List.length_append, List.length_take]; omega), List.take_append_of_le_length (by simp only [List.length_take]; omega), List.take_take, Nat.min_self]

def keptOf (p : En → Bool) (l : List En) : List En := l.filter fun x => !p x
theorem kept_none (p : En → Bool) (l : List En) (h : ∀ k, (h : k < l.length) → p l[k] = false) : keptOf p l = l := by
  unfold keptOf
  rw [List.filter_eq_self]
  intro x hx
  obtain ⟨i, hi, rfl⟩ := List.getElem_of_mem hx
  rw [h i hi]
  rfl
theorem kept_snoc (p : En → Bool) (l : List En) (j : Nat) (h : j < l.length) : keptOf p (l.take (j + 1)) = keptOf p (l.take j) ++ if p l[j] = true then [] else [l[j]] := by
  unfold keptOf
  rw [List.take_succ_eq_append_getElem h, List.filter_append]
  cases hp : p l[j] <;> simp [hp]
theorem kept_first (p : En → Bool) (l : List En) (k : Nat) (h : k < l.length) (hp : p l[k] = true) (hb : ∀ j, (hj : j < k) → p (l[j]'(Nat.lt_trans hj h)) = false) : keptOf p (l.take (k + 1)) = l.take k := by
  rw [kept_snoc p l k h, if_pos hp, List.append_nil]
  refine kept_none p _ fun i hi => ?_
  rw [List.length_take] at hi
  rw [List.getElem_take]
  exact hb i (by omega)
theorem kept_le (p : En → Bool) (l : List En) : (keptOf p l).length ≤ l.length := List.length_filter_le _ _

/-- What lies while it deletes: the first i are those kept of the first j. -/
structure Half (w0 : World) (g cap : Nat) (p : En → Bool) (l : List En) (i j : Nat) (wr : World) : Prop where
  lt : i < j
  le : j ≤ l.length
  row : ∃ ys cur, ys.length = l.length ∧ Blk wr g 28 cur ∧ cur.size = cap * 5 ∧ cur.toList.take (l.length * 5) = ens ys ∧ ys.take i = keptOf p (l.take j) ∧ ∀ t, j ≤ t → ys[t]? = l[t]?
  only : Only (fun k => k = g) w0 wr

section
variable {w0 wr w' : World} {g cap : Nat} {p : En → Bool} {l : List En} {i j : Nat}
theorem Half.lt_g (h : Half w0 g cap p l i j wr) : g < wr.heap.size := by
  obtain ⟨ys, cur, _, hb, _⟩ := h.row
  exact hb.lt
theorem Half.below (h : Half w0 g cap p l i j wr) (hb : Below wr.heap.size wr w') : Half w0 g cap p l i j w' := by
  obtain ⟨ys, cur, h1, h2, h3⟩ := h.row
  exact ⟨h.lt, h.le, ⟨ys, cur, h1, (hb.block g h2.lt).trans h2, h3⟩, h.only.trans (Only.of_below hb)⟩
theorem Half.eat (h : Half w0 g cap p l i j wr) (hj : j < l.length) : EAt wr g (j * 5) l[j] := by
  obtain ⟨ys, cur, h1, h2, h3, h4, h5, h6⟩ := h.row
  refine eat_of fun t u hu => ?_
  have ht : t < 5 := (List.getElem?_eq_some_iff.1 hu).1
  have hjy : j < ys.length := by omega
  have e : ys[j]'hjy = l[j] := by
    have := h6 j (Nat.le_refl _)
    rw [List.getElem?_eq_getElem hjy, List.getElem?_eq_getElem hj] at this
    exact Option.some.inj this
  have hk := ens_at ys j hjy t ht
  rw [e, hu, ← h4, List.getElem?_take] at hk
  split at hk
  · rw [h2.cell, ← hk]; simp
  · cases hk
theorem Half.has (h : Half w0 g cap p l i j wr) (hcap : l.length ≤ cap) (o : Nat) (ho : o < cap * 5) : (wr.cell? ⟨g, o, none⟩).isSome = true ∧ wr.frozen? ⟨g, o, none⟩ = false := by
  obtain ⟨ys, cur, h1, h2, h3, _⟩ := h.row
  exact ⟨by rw [h2.cell, Array.getElem?_eq_getElem (by omega)]; rfl, h2.frozen o⟩
theorem Half.skip (h : Half w0 g cap p l i j wr) (hj : j < l.length) (hp : p l[j] = true) : Half w0 g cap p l i (j + 1) wr := by
  obtain ⟨ys, cur, h1, h2, h3, h4, h5, h6⟩ := h.row
  exact ⟨by have := h.lt; omega, hj, ⟨ys, cur, h1, h2, h3, h4, by rw [kept_snoc p l j hj, if_pos hp, List.append_nil]; exact h5, fun t ht => h6 t (by omega)⟩, h.only⟩
theorem Half.take (h : Half w0 g cap p l i j wr) (hcap : l.length ≤ cap) (hj : j < l.length) (hp : p l[j] = false) : Half w0 g cap p l (i + 1) (j + 1) (wr.setCells g (i * 5) (l[j]).cells) := by
  obtain ⟨ys, cur, h1, h2, h3, h4, h5, h6⟩ := h.row
  have hlt := h.lt
  have hb := Blk.setCells (l[j]).cells (i * 5) wr cur h2 (by rw [cells_len]; omega)
  refine ⟨by omega, hj, ⟨ys.set i l[j], _, by rw [List.length_set]; exact h1, hb, by rw [splice_size _ _ _ (by rw [cells_len]; omega), h3], ?_, ?_, fun t ht => ?_⟩, Only.setCells (F := fun k => k = g) (.inl rfl) _ _ _ h.only⟩
  · rw [← h1]
    exact take_splice cur ys i cap _ h3 (by omega) (by omega) (by rw [h1]; exact h4)
  · rw [kept_snoc p l j hj, if_neg (by rw [hp]; decide), ← h5, List.take_succ_eq_append_getElem (by rw [List.length_set]; omega), List.getElem_set_self, List.take_set_of_le (Nat.le_refl i)]
  · rw [List.getElem?_set_ne (by omega)]
    exact h6 t (by omega)
theorem Half.done (base : Nat) (h : Half w0 g cap p l i l.length wr) (hcap : l.length ≤ cap) (hm : cap ≤ maxLen) (hbase : base ≤ g) : i ≤ l.length ∧ i = (keptOf p l).length ∧ (wr.setCells g (i * 5) (zs (l.length - i))).ownsRow base 28 5 (.slice (some ⟨g, 0, none⟩) i cap) (keptOf p l).length (ens (keptOf p l)) ∧ Only (fun k => k = g) w0 (wr.setCells g (i * 5) (zs (l.length - i))) := by
  obtain ⟨ys, cur, h1, h2, h3, h4, h5, h6⟩ := h.row
  have hlt := h.lt
  rw [List.take_of_length_le (Nat.le_refl _)] at h5
  have hi : i = (keptOf p l).length := by rw [← h5, List.length_take]; omega
  have hzl := zs_len (l.length - i)
  have hb := Blk.setCells (zs (l.length - i)) (i * 5) wr cur h2 (by rw [hzl]; omega)
  refine ⟨by omega, hi, ?_, Only.setCells (F := fun k => k = g) (.inl rfl) _ _ _ h.only⟩
  rw [← hi]
  refine ⟨by rw [ens_len, ← hi], .inr ⟨g, cap, _, rfl, hbase, hb, by omega, hm, by rw [splice_size _ _ _ (by rw [hzl]; omega), h3], ?_⟩⟩
  rw [take_splice_low cur i _ (by rw [hzl]; omega)]
  have e : cur.toList.take (i * 5) = (cur.toList.take (l.length * 5)).take (i * 5) := by rw [List.take_take, Nat.min_eq_left (by omega)]
  rw [e, h4, ens_take, h5]
end

/-- What DeleteFunc leaves. -/
def DelP (base : Nat) (v : Value) (l' : List En) (w : World) (e : Ending) (w' : World) : Prop :=
  ∃ v', e = .returned v' ∧ w'.ownsRow base 28 5 v' l'.length (ens l') ∧ Only (fun k => v.ownBlock = some k) w w' ∧ ∀ k, v'.ownBlock = some k → v.ownBlock = some k

theorem box_eat (w : World) (x : En) : EAt (w.alloc (.cells (x.cells).toArray 28)) w.heap.size 0 x := by
  have h := Blk.new w 28 (x.cells).toArray
  refine eat_of fun j u hu => ?_
  rw [h.cell, Nat.zero_add]
  simpa using hu

theorem setEn_eq (w : World) (g o : Nat) (x : En) : (((((w.setCell ⟨g, o, none⟩ (.int .i64 x.n)).setCell ⟨g, o + 1, none⟩ (.string x.path)).setCell ⟨g, o + 2, none⟩ (.string x.parent)).setCell ⟨g, o + 3, none⟩ (.int .i64 x.ttl)).setCell ⟨g, o + 4, none⟩ (.slice x.A x.sel.length x.c)) = w.setCells g o x.cells := rfl

set_option maxRecDepth 100000 in
set_option maxHeartbeats 4000000 in
theorem delete_any (I : World → Prop) (f : Nat) (lb : Array Value) (p : En → Bool) (l : List En) (hp : Pred I f lb p l) (base : Nat) (v : Value) (w : World) (hI : I w) (hl : l.length ≤ 1000000) (hown : w.ownsRow base 28 5 v l.length (ens l)) (hens : ∀ A c, v = .slice A l.length c → EnsAt w A l) (hset : ∀ W g o vs, v.ownBlock = some g → I W → I (W.setCells g o vs)) :
    Calls Try.prog 27 #[v, .func (.func f) #[] lb] w (DelP base v (keptOf p l) w) := by
  rcases hown.2 with ⟨rfl, h0⟩ | ⟨g, cap, cur, rfl, hbase, hblk, hlc, hcm, hsz, htk⟩
  · have hn : l = [] := List.eq_nil_of_length_eq_zero h0
    subst hn
    have C : Hid (Calls Try.prog 19 #[.slice none 0 0, .func (.func f) #[] lb] w fun e w' => ∃ r, e = .returned (.int .i64 r) ∧ Idx p [] r ∧ Below w.heap.size w w') := Lib.hid (index_any I f lb p [] hp none 0 w hI (by decide) (hens none 0 rfl))
    go_enter Try.func27, Try.ntmps27
    go_upto_region 2 with (go_at_call 19; (with_reducible refine C.out.mono ?_); rintro e w1 ⟨r, rfl, hr, hb⟩; have HR := Lib.hid hr; have HB := Lib.hid hb; clear hr hb)
    have hr : r = -1 := by
      rcases HR.out with ⟨h, _⟩ | ⟨k, _, h, _⟩
      · exact h
      · exact absurd h (Nat.not_lt_zero k)
    subst hr
    go_wp2_with fail
    go_ret
    exact ⟨_, rfl, ⟨rfl, .inl ⟨rfl, rfl⟩⟩, Only.of_below HB.out, fun k hk => hk⟩
  · have hg := (hown.lt g rfl).2
    have C := Lib.hid (index_any I f lb p l hp (some ⟨g, 0, none⟩) cap w hI hl (hens _ _ rfl))
    have HI := Lib.hid hI
    have KEEP := Lib.hid hp.keep
    have CALL := Lib.hid hp.call
    have SET := Lib.hid (fun W o vs => hset W g o vs rfl)
    have HO := Lib.hid hown
    have START : Hid (∀ w1 k, Below w.heap.size w w1 → (h : k < l.length) → p l[k] = true → (∀ j, (hj : j < k) → p (l[j]'(Nat.lt_trans hj h)) = false) → Half w g cap p l k (k + 1) w1) := Lib.hid fun w1 k hb h h1 h2 => by
      obtain ⟨cur, _, c2, c3, c4, c5, c6⟩ := own_cur hown
      exact ⟨Nat.lt_succ_self k, h, ⟨l, cur, rfl, (hb.block g hg).trans c2, c5, c6, (kept_first p l k h h1 h2).symm, fun _ _ => rfl⟩, Only.of_below hb⟩
    have eg := hp.enters
    have hcm2 : cap ≤ 9223372036854775807 := by unfold maxLen at hcm; omega
    have HCM := Lib.hid hcm
    clear hI hp hset hown hblk hsz htk hcm hens
    go_enter Try.func27, Try.ntmps27
    go_upto_region 2 with (go_at_call 19; (with_reducible refine C.out.mono ?_); rintro e w1 ⟨r, rfl, hr, hb⟩; have HR := Lib.hid hr; have HB := Lib.hid hb; clear hr hb)
    rcases HR.out with ⟨rfl, hn⟩ | ⟨k, rfl, hk, h1, h2⟩
    · have HN := Lib.hid (kept_none p l hn)
      clear hn
      go_wp2_with fail
      go_ret
      exact ⟨_, rfl, by rw [HN.out]; exact own_only HO.out (F := fun _ => False) (Only.of_below HB.out) (fun _ _ h => h), Only.of_below HB.out, fun k hk => hk⟩
    · have H0 := Lib.hid (START.out w1 k HB.out hk h1 h2)
      have I1 := Lib.hid (KEEP.out w w1 HI.out HB.out)
      have kne : ((k : Int) == -1) = false := by simp only [beq_eq_false_iff_ne, ne_eq]; omega
      have wk : IntKind.i64.wrap ((k : Int) + 1) = (k : Int) + 1 := IntWalk.i64_in _ (by omega)
      clear h1 h2 START HR
      go_wp2_with fail
      clear wk kne
      go_loopw [5, 6] (fun iv jv wr => ∃ i j : Nat, iv = .int .i64 i ∧ jv = .int .i64 j ∧ Half w g cap p l i j wr ∧ I wr) (fun _ jv _ => l.length - (intOf jv).toNat)
      case atStart => exact ⟨k, k + 1, rfl, by go_num, H0.out, I1.out⟩
      case round =>
        obtain ⟨i, j, rfl, rfl, hh, hi⟩ := hrel
        have hij := hh.lt
        have hjl := hh.le
        have i0 : (0 : Int) ≤ (i : Int) := by omega
        have j0 : (0 : Int) ≤ (j : Int) := by omega
        by_cases hlt : j < l.length
        · have j1 : (j : Int) < (l.length : Int) := by omega
          have i1 : (i : Int) < (l.length : Int) := by omega
          obtain ⟨x0, x1, x2, x3, x4⟩ := hh.eat hlt
          have HH := Lib.hid hh
          have HI := Lib.hid hi
          have SK : Hid (p l[j] = true → ∀ wx, Half w g cap p l i j wx → Half w g cap p l i (j + 1) wx) := Lib.hid fun h wx hx => hx.skip hlt h
          have TK : Hid (p l[j] = false → ∀ wx, Half w g cap p l i j wx → Half w g cap p l (i + 1) (j + 1) (wx.setCells g (i * 5) (l[j]).cells)) := Lib.hid fun h wx hx => hx.take hlc hlt h
          have MEM := List.getElem_mem hlt
          clear hh hi
          generalize l[j] = x at *
          go_upto_region 8 with fail
          have B1 := (Below.refl wr.heap.size wr).alloc (Nat.le_refl _) (.cells #[.int .i64 x.n, .string x.path, .string x.parent, .int .i64 x.ttl, .slice x.A x.sel.length x.c] 28)
          have BK : Hid (EAt (wr.alloc (.cells #[.int .i64 x.n, .string x.path, .string x.parent, .int .i64 x.ttl, .slice x.A x.sel.length x.c] 28)) wr.heap.size 0 x) := Lib.hid (box_eat wr x)
          have I1 := KEEP.out _ _ HI.out B1
          have H1 := Lib.hid (HH.out.below B1)
          have CC := Lib.hid (CALL.out _ x MEM I1)
          have II1 := Lib.hid I1
          have hlt1 : wr.heap.size < (wr.alloc (.cells #[.int .i64 x.n, .string x.path, .string x.parent, .int .i64 x.ttl, .slice x.A x.sel.length x.c] 28)).heap.size := by rw [World.size_alloc]; omega
          clear x0 x1 x2 x3 x4 B1 I1
          generalize wr.alloc (.cells #[.int .i64 x.n, .string x.path, .string x.parent, .int .i64 x.ttl, .slice x.A x.sel.length x.c] 28) = W1 at *
          generalize wr.heap.size = B at *
          obtain ⟨y0, y1, y2, y3, y4⟩ := BK.out
          simp only [Nat.zero_add] at y1 y2 y3 y4
          have hil : i < l.length := by omega
          cases hpx : p x with
          | true =>
            rw [hpx] at CC
            have SK2 := Lib.hid (SK.out hpx)
            clear hpx TK
            go_wp2_with (go_at_fn f; refine CC.out.mono ?_; rintro e w2 ⟨rfl, hb'⟩; have HB2 := Lib.hid hb'; clear hb')
            go_roundw
            case rel => exact ⟨i, j + 1, rfl, by go_num, SK2.out _ (H1.out.below HB2.out), KEEP.out _ _ II1.out HB2.out⟩
            case measure => simp [intOf]; omega
          | false =>
            rw [hpx] at CC
            have TK2 := Lib.hid (TK.out hpx)
            clear hpx SK
            go_upto_region 9 with (go_at_fn f; refine CC.out.mono ?_; rintro e w2 ⟨rfl, hb'⟩; have HB2 := Lib.hid hb'; clear hb')
            clear y0 y1 y2 y3 y4
            obtain ⟨y0, y1, y2, y3, y4⟩ := BK.out.below HB2.out hlt1
            simp only [Nat.zero_add] at y1 y2 y3 y4
            have H2 := Lib.hid (H1.out.below HB2.out)
            obtain ⟨s0, f0⟩ := H2.out.has hlc (i * 5) (by omega)
            obtain ⟨s1, f1⟩ := H2.out.has hlc (i * 5 + 1) (by omega)
            obtain ⟨s2, f2⟩ := H2.out.has hlc (i * 5 + 2) (by omega)
            obtain ⟨s3, f3⟩ := H2.out.has hlc (i * 5 + 3) (by omega)
            obtain ⟨s4, f4⟩ := H2.out.has hlc (i * 5 + 4) (by omega)
            obtain ⟨t0, s0⟩ := Option.isSome_iff_exists.1 s0
            obtain ⟨t1, s1⟩ := Option.isSome_iff_exists.1 s1
            obtain ⟨t2, s2⟩ := Option.isSome_iff_exists.1 s2
            obtain ⟨t3, s3⟩ := Option.isSome_iff_exists.1 s3
            obtain ⟨t4, s4⟩ := Option.isSome_iff_exists.1 s4
            have i1 : (i : Int) < (l.length : Int) := by omega
            go_wp2_with fail
            go_roundw
            case rel =>
              refine ⟨i + 1, j + 1, by go_num, by go_num, ?_, ?_⟩
              · rw [setEn_eq]
                exact TK2.out _ H2.out
              · rw [setEn_eq]
                exact SET.out _ _ _ (KEEP.out _ _ II1.out HB2.out)
            case measure => simp [intOf]; omega
        · have j1 : ¬ (j : Int) < (l.length : Int) := by omega
          have hjn : j = l.length := by omega
          subst hjn
          have hcell := fun k hk => hh.has hlc k hk
          have HD := Lib.hid (hh.done base hlc HCM.out hbase)
          have hcl : Hid (∀ ty, _) := Lib.hid fun ty => run_clear wr ty g (i * 5) (l.length - i) (cap - i) (by omega) (fun j hj => (hcell _ (by omega)).1) (fun j hj => (hcell _ (by omega)).2)
          have hci : ¬ cap = i := by omega
          have hil2 : i ≤ l.length := by omega
          have i1 : (i : Int) ≤ (l.length : Int) := by omega
          have i2 : (i : Int) ≤ (cap : Int) := by omega
          clear hh hi hcell
          go_wp2_with (with_reducible refine wpList_clear rfl (.tmp 38) rfl ⟨g, i * 5, none⟩ _ _ rfl hcl.out ?_)
          go_ret
          exact ⟨_, rfl, HD.out.2.2.1, HD.out.2.2.2.mono (fun k _ hk => by rw [hk]; rfl), fun k hk => hk⟩
end Go.Proofs.Ytcbfmpnkadkpdaa
