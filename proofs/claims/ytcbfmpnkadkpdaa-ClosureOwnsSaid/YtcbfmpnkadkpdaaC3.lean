/- The map of ways: its looks and stores; step: the walk. -/
import Derived.Test.YtcbfmpnkadkpdaaC2
set_option linter.unusedVariables false
namespace Go.Proofs.Ytcbfmpnkadkpdaa
open Go.RowKit Go.Maps

abbrev i64d (n : Int) : DataW Unit := .lit (.int .i64 n)
theorem zero3 (w : World) : (zeroValue 3).run Try.prog w = .ok (.int .i64 0) w := by kernel_rfl
theorem wf_nat (n : Nat) (h : n ≤ 1000000) : (Lit.int .i64 n).wf = true := by
  exact WalkArith.wf_i64 (by omega)

/-- Block b is a map of at most N ways, that tells d of paths, and 0 of the agent. -/
def MapR (w : World) (b N : Nat) (agent : ByteArray) (d : ByteArray → Option Nat) : Prop :=
  ∃ D : DataW Unit, w.ownsMap Try.prog 50 (plainElem Try.prog 3) b N D ∧ IsMap D ∧
    (∀ p, p.size ≤ maxLen → has D (kl true p) = decide (p = agent) ∧ D.atKey (kl true p) (i64d 0) = i64d 0) ∧
    (∀ p, p.size ≤ maxLen → has D (kl false p) = (d p).isSome ∧ D.atKey (kl false p) (i64d 0) = i64d ((d p).getD 0 : Nat))

section
variable {w w' : World} {b N : Nat} {agent : ByteArray} {d : ByteArray → Option Nat}
theorem MapR.lt (h : MapR w b N agent d) : b < w.heap.size := by
  obtain ⟨D, h1, _⟩ := h
  exact h1.lt
theorem MapR.block (h : MapR w b N agent d) (hb : w'.heap[b]? = w.heap[b]?) : MapR w' b N agent d := by
  obtain ⟨D, ⟨es, clock, h1, h2⟩, h3⟩ := h
  exact ⟨D, ⟨es, clock, hb.trans h1, h2⟩, h3⟩
theorem MapR.below (h : MapR w b N agent d) (hb : Below w.heap.size w w') : MapR w' b N agent d := h.block (hb.block b h.lt)
theorem MapR.only {F : Nat → Prop} (h : MapR w b N agent d) (hb : Only F w w') (hf : ¬ F b) : MapR w' b N agent d := h.block (hb.block b h.lt hf)
theorem map_new (w : World) (agent : ByteArray) (ha : agent.size ≤ maxLen) (w1 : World) (h : w1.ownsMap (H := Unit) Try.prog 50 (plainElem Try.prog 3) w.heap.size 1 ((DataW.map []).put (kl true agent) (i64d 0))) : MapR w1 w.heap.size 1 agent (fun _ => none) := by
  have hk : WideAt.IsKeyLit (kl true agent) := keyed50.key (key_mk true agent ha)
  refine ⟨_, h, isMap_empty.put _ _, fun p hp => ?_, fun p hp => ?_⟩
  · by_cases c : p = agent
    · subst c
      exact ⟨by rw [has_put_same isMap_empty hk, decide_eq_true rfl], atKey_put_same isMap_empty hk _ _⟩
    · have hne : kl true p ≠ kl true agent := fun e => c (kl_inj hp ha e).2
      exact ⟨by rw [has_put_other hne, decide_eq_false c]; rfl, by rw [atKey_put_other hne]; rfl⟩
  · have hne : kl false p ≠ kl true agent := fun e => by have := (kl_inj hp ha e).1; cases this
    exact ⟨by rw [has_put_other hne]; rfl, by rw [atKey_put_other hne]; rfl⟩
theorem map_put {D : DataW Unit} {p : ByteArray} {n : Nat} (hp : p.size ≤ maxLen) (hD : IsMap D) (h1 : ∀ p, p.size ≤ maxLen → has D (kl true p) = decide (p = agent) ∧ D.atKey (kl true p) (i64d 0) = i64d 0)
    (h2 : ∀ p, p.size ≤ maxLen → has D (kl false p) = (d p).isSome ∧ D.atKey (kl false p) (i64d 0) = i64d ((d p).getD 0 : Nat)) (ho : w'.ownsMap Try.prog 50 (plainElem Try.prog 3) b N (D.put (kl false p) (i64d n))) : MapR w' b N agent (upd d p n) := by
  have hk : WideAt.IsKeyLit (kl false p) := keyed50.key (key_mk false p hp)
  refine ⟨_, ho, hD.put _ _, fun q hq => ?_, fun q hq => ?_⟩
  · have hne : kl true q ≠ kl false p := fun e => by have := (kl_inj hq hp e).1; cases this
    rw [has_put_other hne, atKey_put_other hne]
    exact h1 q hq
  · by_cases c : q = p
    · subst c
      rw [has_put_same hD hk, atKey_put_same hD hk]
      unfold upd
      rw [if_pos rfl]
      exact ⟨rfl, rfl⟩
    · have hne : kl false q ≠ kl false p := fun e => c (kl_inj hq hp e).2
      rw [has_put_other hne, atKey_put_other hne]
      unfold upd
      rw [if_neg c]
      exact h2 q hq
end

section
variable {w : World} {b N : Nat} {agent : ByteArray} {d : ByteArray → Option Nat} {ops : Array Oper} {rest : List Oper} {o : Oper} {a : Act} {Q : Exit → Act → World → Prop}
theorem lit_inj {x y : Int} (h : i64d x = i64d y) : x = y := by
  simpa using h
theorem wpList_look_path (hg : o.guard = none) (m x : Operand) (hop : o.op = Op.lookup 41 m x true) (hm : a.eval m = .map (some b)) (h : MapR w b N agent d) (p : ByteArray) (hp : p.size ≤ maxLen) (hx : a.eval x = .agg #[.bool false, .string p])
    (hK : wpList Try.prog ops Q rest (a.put o.dst (.tuple #[.int .i64 ((d p).getD 0 : Nat), .bool (d p).isSome])) w) : wpList Try.prog ops Q (o :: rest) a w := by
  obtain ⟨D, h1, _, _, h4⟩ := h
  refine wpList_lookup_own_ok_int w hg m x 41 hop 50 3 .i64 keyed50 Try.underlying41 Try.underlying3 (zero3 _) b N D hm h1 _ _ hx (key_mk false p hp) fun c hat _ => ?_
  have e := lit_inj (((h4 p hp).2.symm.trans hat).symm)
  rw [e, (h4 p hp).1]
  exact hK
theorem wpList_look_agent (hg : o.guard = none) (m x : Operand) (hop : o.op = Op.lookup 41 m x true) (hm : a.eval m = .map (some b)) (h : MapR w b N agent d) (p : ByteArray) (hp : p.size ≤ maxLen) (hx : a.eval x = .agg #[.bool true, .string p])
    (hK : wpList Try.prog ops Q rest (a.put o.dst (.tuple #[.int .i64 0, .bool (decide (p = agent))])) w) : wpList Try.prog ops Q (o :: rest) a w := by
  obtain ⟨D, h1, _, h3, _⟩ := h
  refine wpList_lookup_own_ok_int w hg m x 41 hop 50 3 .i64 keyed50 Try.underlying41 Try.underlying3 (zero3 _) b N D hm h1 _ _ hx (key_mk true p hp) fun c hat _ => ?_
  have e := lit_inj (((h3 p hp).2.symm.trans hat).symm)
  rw [e, (h3 p hp).1]
  exact hK
theorem wpList_store_path (hg : o.guard = none) (m x v : Operand) (hop : o.op = Op.mapUpdate 41 m x v) (hm : a.eval m = .map (some b)) (h : MapR w b N agent d) (hN : N < maxLen) (p : ByteArray) (hp : p.size ≤ maxLen) (hx : a.eval x = .agg #[.bool false, .string p]) (n : Nat) (hn : n ≤ 1000000) (hv : a.eval v = .int .i64 n)
    (hK : ∀ w', MapR w' b (N + 1) agent (upd d p n) → w.grownBy w' (some b) → wpList Try.prog ops Q rest (a.put o.dst undef) w') : wpList Try.prog ops Q (o :: rest) a w := by
  obtain ⟨D, h1, h2, h3, h4⟩ := h
  exact wpList_mapUpdate_own w hg m x v 41 hop 50 3 keyed50 Try.underlying41 _ b N D hm h1 hN _ _ _ hx hv (key_mk false p hp) _ [] (plainElem_int Try.underlying3 (wf_nat n hn)) fun w' ho hgr => hK w' (map_put hp h2 h3 h4 ho) hgr
theorem wpList_insert_agent (hg : o.guard = none) (m x v : Operand) (hop : o.op = Op.insert 41 m x v) (w0 : World) (hw : w = w0.alloc (.map #[] 0)) (hm : a.eval m = .map (some w0.heap.size)) (p : ByteArray) (hp : p.size ≤ maxLen) (hx : a.eval x = .agg #[.bool true, .string p]) (hv : a.eval v = .int .i64 0)
    (hK : ∀ w', MapR w' w0.heap.size 1 p (fun _ => none) → w.grownBy w' (some w0.heap.size) → wpList Try.prog ops Q rest (a.put o.dst undef) w') : wpList Try.prog ops Q (o :: rest) a w := by
  subst hw
  refine wpList_plain hg fun K' hK' => ?_
  obtain ⟨w', hrun, r1, r2⟩ := (World.ownsMap_made (H := Unit) w0 Try.prog 50 (plainElem Try.prog 3)).update keyed50 Try.underlying41 (by decide) (key_mk true p hp) (plainElem_int Try.underlying3 (show (Lit.int .i64 0).wf = true by decide))
  unfold Oper.wp
  simp [execOp, hop, hm, hx, hv, hrun, Result.andThen]
  exact hK' _ _ (hK w' (map_new w0 p hp w' r1) r2)
end
end Go.Proofs.Ytcbfmpnkadkpdaa
