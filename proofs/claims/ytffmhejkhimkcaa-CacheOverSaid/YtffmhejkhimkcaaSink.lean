/- A region whose last operation waits for all others: walked without it, and the last one behind. -/
import Derived.Test.YtffmhejkhimkcaaC1
import Derived.OrdersHeld
set_option linter.unusedVariables false
namespace Go.Proofs.Ytffmhejkhimkcaa
open Go.RowKit

/-- An operation that does nothing, in the place of o. -/
def idle (o : Oper) : Oper := { o with op := .assign (.const undef) }

section
variable {P : Program} {ops ops2 : Array Oper} {Q : Exit → Act → World → Prop} {md : Region.Mode} {n : Nat} {o : Oper}

theorem yielded_idle (h : ∀ j : Nat, (ops2[j]?).bind (·.dst) = (ops[j]?).bind (·.dst)) (ts : Array Value) : yielded ops2 ts = yielded ops ts := by
  funext j
  unfold yielded
  have := h j
  rw [this]

/-- What is behind the last operation. -/
def Behind (P : Program) (ops : Array Oper) (Q : Exit → Act → World → Prop) (n : Nat) : Exit → Act → World → Prop
  | .normal, a, w => wpOp P ops Q n (Q .normal) a w
  | e, a, w => Q e a w

theorem behind_normal {a : Act} {w : World} (h : wpOp P ops Q n (Q .normal) a w) : Behind P ops Q n .normal a w := h
theorem lets_behind (h : LetsOut (Behind P ops Q n)) : LetsOut Q := h
theorem oper_behind {o : Oper} {a : Act} {w : World} {K K' : Act → World → Prop} (h : ∀ a w, K a w → K' a w)
    (hh : o.wp P a w K (Behind P ops Q n)) : o.wp P a w K' Q := by
  unfold Oper.wp at *
  generalize (execOp a.eval o).run P w = r at *
  cases r with
  | ok n w' =>
    cases n <;> simp only [Oper.upon] at hh ⊢ <;>
      first
        | exact h _ _ hh
        | exact Calls.mono hh (fun e w'' he => by cases e <;> first | exact h _ _ he | exact he)
        | exact Rows.mono hh (fun _ _ he => h _ _ he)
  | halt x w' => cases x <;> simp only [Oper.upon] at hh ⊢ <;> exact hh
theorem set_get (i : Nat) (h : i ≠ n) (o' : Oper) : (ops.setIfInBounds n o')[i]? = ops[i]? := Array.getElem?_setIfInBounds_ne (Ne.symm h)
theorem set_yielded (ho : ops[n]? = some o) (ts : Array Value) : yielded (ops.setIfInBounds n (idle o)) ts = yielded ops ts := by
  refine yielded_idle (fun j => ?_) ts
  by_cases h : j = n
  · subst h
    have hlt := (Array.getElem?_eq_some_iff.1 ho).1
    rw [Array.getElem?_setIfInBounds_self_of_lt hlt, ho]
    rfl
  · rw [set_get j h]
theorem wpOp_behind (ho : ops[n]? = some o) {i : Nat} (hi : i ≠ n) {a : Act} {w : World} {K K' : Act → World → Prop} (h : ∀ a w, K a w → K' a w)
    (hh : wpOp P (ops.setIfInBounds n (idle o)) (Behind P ops Q n) i K a w) : wpOp P ops Q i K' a w := by
  unfold wpOp at *
  rw [set_get i hi, set_yielded ho] at hh
  split
  · rename_i hn; rw [hn] at hh; exact h _ _ hh
  · rename_i o' ho'
    rw [ho'] at hh
    simp only at hh
    split
    · rename_i hw; rw [if_pos hw] at hh; exact hh.imp (oper_behind h) id
    · rename_i hw; rw [if_neg hw] at hh; exact h _ _ hh
theorem ready_set (ho : ops[n]? = some o) (listed : Array Bool) : Region.ready md (ops.setIfInBounds n (idle o)) listed = Region.ready md ops listed := by
  unfold Region.ready
  rw [Array.size_setIfInBounds]
  refine List.filter_congr fun i hi => ?_
  by_cases h : i = n
  · subst h
    have hlt := (Array.getElem?_eq_some_iff.1 ho).1
    rw [Array.getElem?_setIfInBounds_self_of_lt hlt, ho]
    rfl
  · rw [set_get i h]

theorem least (f : Nat → Bool) : ∀ n, f n = false → ∃ j, j ≤ n ∧ f j = false ∧ ∀ k, k < j → f k = true := by
  intro n
  induction n using Nat.strongRecOn with
  | _ n ih =>
    intro h
    by_cases hall : ∀ k, k < n → f k = true
    · exact ⟨n, Nat.le_refl _, h, hall⟩
    · have ⟨k, hk⟩ := Classical.not_forall.1 hall
      have ⟨hkn, hf⟩ := Classical.not_imp.1 hk
      obtain ⟨j, hj, h1, h2⟩ := ih k hkn (by simpa using hf)
      exact ⟨j, by omega, h1, h2⟩
theorem getD_lt {listed : Array Bool} {k : Nat} (h : k < listed.size) (d d' : Bool) : listed.getD k d = listed.getD k d' := by
  simp [Array.getD, h]
theorem set_mono {listed : Array Bool} {i k : Nat} (h : listed.getD k false = true) : (listed.setIfInBounds i true).getD k false = true := by
  by_cases e : i = k
  · subst e
    by_cases hl : i < listed.size
    · simp [Array.getD, hl]
    · simp [Array.getD, hl] at h
  · rw [getD_set_ne false e]; exact h
theorem ready_some (hsz : ops.size = n + 1) (hback : ∀ j o', ops[j]? = some o' → ∀ e ∈ o'.after, Region.binds md e = true → e.on < j) (listed : Array Bool) (h1 : listed.size = n + 1) (h2 : listed.getD n true = false) : Region.ready md ops listed ≠ [] := by
  obtain ⟨j, hj, hf, hall⟩ := least (fun k => listed.getD k true) n h2
  have hjs : j < ops.size := by omega
  intro hr
  have hm : j ∈ Region.ready md ops listed := mem_ready.2 ⟨hf, ops[j], Array.getElem?_eq_getElem hjs, fun e he hb => by
    have := hback j _ (Array.getElem?_eq_getElem hjs) e he hb
    rw [getD_lt (by omega) false true]
    exact hall _ this⟩
  rw [hr] at hm
  cases hm
/-- What is listed has all listed that it waits for. -/
def Closed (md : Region.Mode) (ops : Array Oper) (listed : Array Bool) : Prop := ∀ k o', ops[k]? = some o' → listed.getD k true = true → ∀ e ∈ o'.after, Region.binds md e = true → listed.getD e.on false = true
def Waits (md : Region.Mode) (ops : Array Oper) (o : Oper) (j : Nat) : Prop := (∃ e ∈ o.after, Region.binds md e = true ∧ e.on = j) ∨ ∃ e ∈ o.after, Region.binds md e = true ∧ ∃ o', ops[e.on]? = some o' ∧ ∃ e' ∈ o'.after, Region.binds md e' = true ∧ e'.on = j
theorem ready_last (hsz : ops.size = n + 1) (ho : ops[n]? = some o) (hwait : ∀ j, j < n → Waits md ops o j) (listed : Array Bool) (h1 : listed.size = n + 1) (hcl : Closed md ops listed) (h : n ∈ Region.ready md ops listed) : Region.ready md ops (listed.setIfInBounds n true) = [] := by
  obtain ⟨h2, o', ho', hall⟩ := mem_ready.1 h
  rw [ho] at ho'
  injection ho' with ho'
  subst ho'
  refine List.eq_nil_iff_forall_not_mem.2 fun j hj => ?_
  obtain ⟨h3, o3, h4, _⟩ := mem_ready.1 hj
  have hjs := (Array.getElem?_eq_some_iff.1 h4).1
  by_cases hjn : j = n
  · subst hjn
    simp [Array.getD, h1] at h3
  · have hlj : listed.getD j false = true := by
      rcases hwait j (by omega) with ⟨e, he, hb, heo⟩ | ⟨e, he, hb, o2, ho2, e2, he2, hb2, heo⟩
      · have := hall e he hb
        rwa [heo] at this
      · have h5 := hall e he hb
        have hlt := (Array.getElem?_eq_some_iff.1 ho2).1
        rw [getD_lt (by omega) false true] at h5
        have := hcl e.on o2 ho2 h5 e2 he2 hb2
        rwa [heo] at this
    rw [getD_lt (by omega) false true] at hlj
    rw [getD_set_ne true (Ne.symm hjn), hlj] at h3
    cases h3

theorem wpAny_sink (hsz : ops.size = n + 1) (ho : ops[n]? = some o) (hd : o.dst = none) (hg : o.guard = none) (hback : ∀ j o', ops[j]? = some o' → ∀ e ∈ o'.after, Region.binds md e = true → e.on < j) (hwait : ∀ j, j < n → Waits md ops o j) :
    ∀ (fuel : Nat) (listed : Array Bool) (a : Act) (w : World), listed.size = n + 1 → listed.getD n true = false → Closed md ops listed →
      wpAny P md (ops.setIfInBounds n (idle o)) (Behind P ops Q n) fuel listed a w → wpAny P md ops Q fuel listed a w := by
  intro fuel
  induction fuel with
  | zero =>
    intro listed a w h1 h2 hcl h
    rw [wpAny, ready_set ho] at h
    exact absurd h.1 (ready_some hsz hback listed h1 h2)
  | succ fuel ih =>
    intro listed a w h1 h2 hcl h
    rw [wpAny, ready_set ho] at h
    refine ⟨fun hr => absurd hr (ready_some hsz hback listed h1 h2), fun i hi => ?_⟩
    have hh := h.2 i hi
    by_cases hin : i = n
    · subst hin
      have hr := ready_last hsz ho hwait listed h1 hcl hi
      have hlt := (Array.getElem?_eq_some_iff.1 ho).1
      unfold wpOp at hh
      rw [Array.getElem?_setIfInBounds_self_of_lt hlt] at hh
      simp only at hh
      have hw : Region.wanted (idle o) (yielded (ops.setIfInBounds i (idle o)) a.tmps) = true := by
        unfold Region.wanted idle
        rw [hg]
      rw [if_pos hw] at hh
      have hk : wpAny P md (ops.setIfInBounds i (idle o)) (Behind P ops Q i) fuel (listed.setIfInBounds i true) a w := by
        rcases hh with hh | ⟨hh, _⟩
        · have e : (idle o).dst = none := hd
          unfold Oper.wp at hh
          have e2 : (execOp a.eval (idle o)).run P w = .ok (.value (a.eval (.const undef))) w := rfl
          rw [e2, Oper.upon_value, e] at hh
          exact hh
        · exfalso
          have := hh.1
          simp [execOp, idle] at this
          exact Array.not_mem_empty _ this
      have hq : wpOp P ops Q i (Q .normal) a w := by
        cases fuel with
        | zero => exact hk.2
        | succ f => exact hk.1 (by rw [ready_set ho]; exact hr)
      refine wpOp_mono (fun a' w' hq' => ?_) hq
      cases fuel with
      | zero => exact ⟨hr, hq'⟩
      | succ f => exact ⟨fun _ => hq', by rw [hr]; simp⟩
    · refine wpOp_behind ho hin (fun a' w' hk => ih _ a' w' ?_ ?_ ?_ hk) hh
      · rw [Array.size_setIfInBounds]; exact h1
      · rw [getD_set_ne true hin]; exact h2
      · intro k o' hk' hlk e he hb
        obtain ⟨_, oi, hoi, hall⟩ := mem_ready.1 hi
        by_cases hki : k = i
        · subst hki
          rw [hoi] at hk'
          injection hk' with hk'
          subst hk'
          exact set_mono (hall e he hb)
        · rw [getD_set_ne true (Ne.symm hki)] at hlk
          exact set_mono (hcl k o' hk' hlk e he hb)

def backB (md : Region.Mode) (ops : Array Oper) : Bool := (List.range ops.size).all fun j => match ops[j]? with
  | some o => o.after.all fun e => !Region.binds md e || decide (e.on < j)
  | none => true
def waitsB (md : Region.Mode) (ops : Array Oper) (o : Oper) (j : Nat) : Bool := o.after.toList.any fun e => Region.binds md e && (decide (e.on = j) || match ops[e.on]? with
  | some o' => o'.after.toList.any fun e' => Region.binds md e' && decide (e'.on = j)
  | none => false)
def waitB (md : Region.Mode) (ops : Array Oper) (n : Nat) (o : Oper) : Bool := (List.range n).all fun j => waitsB md ops o j
theorem backB_spec (h : backB md ops = true) : ∀ j o', ops[j]? = some o' → ∀ e ∈ o'.after, Region.binds md e = true → e.on < j := by
  intro j o' hj e he hb
  have hlt := (Array.getElem?_eq_some_iff.1 hj).1
  have := List.all_eq_true.1 h j (List.mem_range.2 hlt)
  rw [hj] at this
  have := Array.all_eq_true_iff_forall_mem.1 this e he
  rw [hb] at this
  simpa using this
theorem waitB_spec (h : waitB md ops n o = true) : ∀ j, j < n → Waits md ops o j := by
  intro j hj
  have := List.all_eq_true.1 h j (List.mem_range.2 hj)
  obtain ⟨e, he, hh⟩ := List.any_eq_true.1 this
  rw [Array.mem_toList_iff] at he
  rw [Bool.and_eq_true, Bool.or_eq_true] at hh
  obtain ⟨hb, h1 | h1⟩ := hh
  · exact .inl ⟨e, he, hb, of_decide_eq_true h1⟩
  · cases ho : ops[e.on]? with
    | none => rw [ho] at h1; cases h1
    | some o' =>
      rw [ho] at h1
      obtain ⟨e2, he2, hh2⟩ := List.any_eq_true.1 h1
      rw [Array.mem_toList_iff] at he2
      rw [Bool.and_eq_true] at hh2
      exact .inr ⟨e, he, hb, o', ho, e2, he2, hh2.1, of_decide_eq_true hh2.2⟩
/-- **The region, walked without its last operation; that one behind.** -/
theorem wp_region_sink {id : Nat} {a : Act} {w : World} (hm : P.follows .mixedOrders = true) (n : Nat) (o : Oper) (hsz : ops.size = n + 1) (ho : ops[n]? = some o) (hd : o.dst = none) (hg : o.guard = none)
    (hback : backB .any ops = true) (hwait : waitB .any ops n o = true)
    (h : wpAny P .any (ops.setIfInBounds n (idle o)) (Behind P ops Q n) (n + 1) (Array.replicate (n + 1) false) a { w with drawn := w.drawn + 1 }) : (Code.region id ops true).wp P Q a w := by
  refine wp_region_any hm ?_
  rw [hsz]
  exact wpAny_sink hsz ho hd hg (backB_spec hback) (waitB_spec hwait) _ _ _ _ (by simp) (by simp) (fun k o' hk hl => by
    have hlt := (Array.getElem?_eq_some_iff.1 hk).1
    simp [Array.getD, hsz ▸ hlt] at hl) h
end
end Go.Proofs.Ytffmhejkhimkcaa
