/- XMix's law within a walk at the wide fence (an iterator's body, which calls yield): a region that draws its order, walked once. -/
import Derived.Test.YtlianjnmfgakkaaDoorMix
import Derived.OrdersIn
import Derived.RangeFuncCalls
namespace Go.Proofs.YtlianjnmfgakkaaDoor
open Go.RowKit

section
variable {n : Nat} {P : Program} {ops : Array Oper} {Q : Exit → Act → World → Prop} {md : Region.Mode} {S : World → Prop}

/-- whatever may come up, and S behind each -/
def wpAnyW (n : Nat) (P : Program) (md : Region.Mode) (ops : Array Oper) (Q : Exit → Act → World → Prop) (S : World → Prop) : Nat → Array Bool → Act → World → Prop
  | 0, listed, a, w => Region.ready md ops listed = [] ∧ Q .normal a w
  | fuel + 1, listed, a, w => (Region.ready md ops listed = [] → Q .normal a w) ∧
    ∀ i ∈ Region.ready md ops listed, wpOpIn Fence.wide n P ops Q i (fun a' w' => S w' ∧ wpAnyW n P md ops Q S fuel (listed.setIfInBounds i true) a' w') a w
theorem anyIn_of_W : ∀ (fuel : Nat) (listed : Array Bool) (a : Act) (w : World), wpAnyW n P md ops Q S fuel listed a w → wpAnyIn Fence.wide n P md ops Q fuel listed a w
  | 0, _, _, _, h => h
  | fuel + 1, _, _, _, h => ⟨h.1, fun i hi => wpOpIn_mono (fun a' w' h' => anyIn_of_W fuel _ a' w' h'.2) (h.2 i hi)⟩
theorem yieldsW {i : Nat} {o : Oper} {v : Value} {a : Act} (hi : ops[i]? = some o) (hy : YieldsIf P ops S o v a) {K : Act → World → Prop} {w : World} (hS : S w) (h : K (a.put o.dst v) w) : wpOpIn Fence.wide n P ops Q i K a w := by
  unfold wpOpIn
  simp only [hi]
  rcases hy with ⟨hw, hv⟩ | ⟨hw, rfl⟩
  · rw [if_pos hw]
    refine ⟨fun _ _ => trivial, ?_⟩
    have hr : Fence.wide.round = none := rfl
    rw [hr, Oper.semAt_none, hv w hS]
    exact h
  · rw [if_neg (by rw [hw]; decide)]
    exact ⟨fun _ _ => trivial, h⟩
theorem putW {j : Nat} {oi oj : Oper} {v : Value} (hj : ops[j]? = some oj) (hap : oi.apart ops oj = true) (hsi : ∀ cs b, oi.op ≠ .select cs b) (hsj : ∀ cs b, oj.op ≠ .select cs b)
    (hQ : ∀ c a w, Q (.panic c) (a.put oi.dst v) w → Q (.panic c) a w) {K : Act → World → Prop} {a : Act} {w : World} (hy : YieldsIf P ops S oi v a) (h : wpOpIn Fence.wide n P ops Q j K (a.put oi.dst v) w) :
    wpOpIn Fence.wide n P ops Q j (fun a' w' => YieldsIf P ops S oi v a' ∧ K (a'.put oi.dst v) w') a w := by
  obtain ⟨p1, p2, p3⟩ := Oper.apart_spec hap
  have stay : ∀ (b : Act), YieldsIf P ops S oi v b → ∀ u, YieldsIf P ops S oi v (b.put oj.dst u) := fun b hb u => hb.of_same (execOp_put oi hsi b oj.dst u p3) (wanted_put oi b oj.dst u p3)
  have swap : ∀ u, (a.put oi.dst v).put oj.dst u = (a.put oj.dst u).put oi.dst v := fun u => (Act.put_comm a v u p2)
  have hr : Fence.wide.round = none := rfl
  unfold wpOpIn at *
  simp only [hj] at *
  rw [wanted_put oj a oi.dst v p1] at h
  split
  · rename_i hw
    rw [if_pos hw] at h
    refine ⟨fun _ _ => trivial, ?_⟩
    have h2 := h.2
    rw [hr, Oper.semAt_none, execOp_put oj hsj a oi.dst v p1] at h2
    rw [hr, Oper.semAt_none]
    generalize (execOp a.eval oj).run P w = res at *
    cases res with
    | ok x w' =>
      cases x with
      | value u => exact ⟨stay a hy u, by have h3 : K _ w' := h2; rw [swap u] at h3; exact h3⟩
      | skip => exact ⟨stay a hy _, by have h3 : K _ w' := h2; rw [swap undef] at h3; exact h3⟩
      | defer d =>
        refine ⟨stay _ (hy.of_same (a' := { a with defers := d :: a.defers }) rfl rfl) _, ?_⟩
        have h3 : K _ w' := h2
        rw [← Act.put_comm _ v undef p2, ← Act.put_defers]
        exact h3
      | enter f args =>
        refine ⟨h2.1, CallsIn.mono h2.2 fun e w'' he => ?_⟩
        cases e with
        | returned u => exact ⟨stay a hy u, by have h3 : K _ w'' := he; rw [swap u] at h3; exact h3⟩
        | panicked c => exact hQ _ _ _ he
        | outgrown => exact he
      | row row args => exact ⟨h2.1, RowsIn.mono h2.2 fun u w'' he => ⟨stay a hy u, by have h3 : K _ w'' := he; rw [swap u] at h3; exact h3⟩⟩
      | round l f tmps assign body =>
        refine ⟨h2.1, RoundIn.mono h2.2 fun e w'' he => ?_⟩
        cases e with
        | returned u => exact ⟨stay a hy u, by have h3 : K _ w'' := he; rw [swap u] at h3; exact h3⟩
        | panicked c => exact hQ _ _ _ he
        | outgrown => exact he
      | _ => exact h2.elim
    | halt x w' =>
      cases x with
      | panic u => exact hQ _ _ _ h2
      | _ => exact h2.elim
  · rename_i hw
    rw [if_neg hw] at h
    exact ⟨fun _ _ => trivial, stay a hy _, by have h3 := h.2; rw [swap undef] at h3; exact h3⟩
theorem anyW_first {i : Nat} {oi : Oper} {v : Value} (hi : ops[i]? = some oi) (hsel : ∀ (j : Nat) (o : Oper) cs b, ops[j]? = some o → o.op ≠ .select cs b) (hQ : ∀ c a w, Q (.panic c) (a.put oi.dst v) w → Q (.panic c) a w) :
    ∀ (fuel : Nat) (listed : Array Bool) (a : Act) (w : World),
      (∀ j oj, ops[j]? = some oj → j ≠ i → listed.getD j true = false → (∀ e ∈ oj.after, Region.binds md e = true → e.on ≠ i) → oi.apart ops oj = true) →
      i ∈ Region.ready md ops listed → YieldsIf P ops S oi v a → S w →
      wpAnyW n P md ops Q S fuel (listed.setIfInBounds i true) (a.put oi.dst v) w → wpAnyW n P md ops Q S (fuel + 1) listed a w := by
  intro fuel
  induction fuel with
  | zero =>
    intro listed a w _ hr hy hS H
    refine ⟨fun h => (by rw [h] at hr; cases hr), fun j hj => ?_⟩
    by_cases hji : j = i
    · subst hji; exact yieldsW hi hy hS ⟨hS, H⟩
    · have hm := ready_mono hj hji
      rw [H.1] at hm
      cases hm
  | succ fuel ih =>
    intro listed a w hfree hr hy hS H
    refine ⟨fun h => (by rw [h] at hr; cases hr), fun j hj => ?_⟩
    by_cases hji : j = i
    · subst hji; exact yieldsW hi hy hS ⟨hS, H⟩
    · obtain ⟨hjun, oj, hoj, hall⟩ := mem_ready.1 hj
      have hiun := (mem_ready.1 hr).1
      have hnot : ∀ e ∈ oj.after, Region.binds md e = true → e.on ≠ i := by
        intro e he hb heq
        have hl := hall e he hb
        rw [heq] at hl
        rcases Nat.lt_or_ge i listed.size with h' | h'
        · simp [h'] at hiun hl; rw [hiun] at hl; cases hl
        · simp [Array.getElem?_eq_none h'] at hl
      have hput := putW hoj (hfree j oj hoj hji hjun hnot) (fun cs b => hsel i oi cs b hi) (fun cs b => hsel j oj cs b hoj) hQ hy (H.2 j (ready_mono hj hji))
      refine wpOpIn_mono (fun a' w' h3 => ⟨h3.2.1, ih (listed.setIfInBounds j true) a' w' ?_ (ready_mono hr (Ne.symm hji)) h3.1 h3.2.1 ?_⟩) hput
      · intro k ok hk hki hun hno
        refine hfree k ok hk hki ?_ hno
        by_cases hjk : j = k
        · subst hjk; exact hjun
        · rw [getD_set_ne true hjk] at hun; exact hun
      · rw [Array.setIfInBounds_comm _ _ hji]
        exact h3.2.2
def wpMixW (n : Nat) (P : Program) (ops : Array Oper) (Q : Exit → Act → World → Prop) (S : World → Prop) : List (Nat × Bool) → Act → World → Prop
  | [], a, w => Q .normal a w
  | (i, true) :: r, a, w => ∃ o v, ops[i]? = some o ∧ YieldsIf P ops S o v a ∧ wpMixW n P ops Q S r (a.put o.dst v) w
  | (i, false) :: r, a, w => wpOpIn Fence.wide n P ops Q i (fun a' w' => S w' ∧ wpMixW n P ops Q S r a' w') a w
theorem mixW_sound (hs : Region.noSelect ops = true) (hQ : ∀ c a d v w, Q (.panic c) (Act.put a d v) w → Q (.panic c) a w) :
    ∀ (l : List (Nat × Bool)) (listed : Array Bool) (a : Act) (w : World), mixOk md ops l listed = true → S w → wpMixW n P ops Q S l a w → wpAnyW n P md ops Q S l.length listed a w
  | [], listed, a, w, hok, hS, h => ⟨by simpa [mixOk] using hok, h⟩
  | (i, true) :: r, listed, a, w, hok, hS, h => by
    simp only [mixOk, Bool.and_eq_true] at hok
    obtain ⟨o, v, ho, hy, hr⟩ := h
    exact anyW_first ho (Region.noSelect_spec hs) (fun c a w => hQ c a _ _ w) r.length listed a w (Region.free_spec ho hok.2.1) (by simpa using hok.1) hy hS (mixW_sound hs hQ r _ _ _ hok.2.2 hS hr)
  | (i, false) :: r, listed, a, w, hok, hS, h => by
    simp only [mixOk, Bool.and_eq_true, beq_iff_eq] at hok
    refine ⟨fun h0 => (by rw [hok.1] at h0; cases h0), fun j hj => ?_⟩
    rw [hok.1] at hj
    obtain rfl : j = i := by simpa using hj
    exact wpOpIn_mono (fun a' w' ⟨h1, h2⟩ => ⟨h1, mixW_sound hs hQ r _ _ _ hok.2 h1 h2⟩) h
theorem wp_region_mixW {id : Nat} {a : Act} {w : World} (S : World → Prop) (l : List (Nat × Bool)) (hm : P.follows .mixedOrders = true)
    (hs : Region.noSelect ops = true) (hl : l.length = ops.size) (hok : mixOk .any ops l (Array.replicate ops.size false) = true)
    (hQ : ∀ c a d v w, Q (.panic c) (Act.put a d v) w → Q (.panic c) a w) (hS : S w.drew) (h : wpMixW n P ops Q S l a w.drew) : (Code.region id ops true).wpIn Fence.wide n P Q a w := by
  refine wpIn_region_any hm (anyIn_of_W (S := S) _ _ _ _ ?_)
  have := mixW_sound (n := n) (md := .any) hs hQ l (Array.replicate ops.size false) a w.drew hok hS h
  rw [hl] at this
  exact this
theorem op_round {o : Oper} {r : Nat} {K : Act → World → Prop} {a : Act} {w : World} (hd : ∀ c, o.op ≠ .defer c) (hh : o.wpIn Fence.wide n P a w K Q) : o.wpIn (Fence.wide.inRound r) n P a w K Q := by
  unfold Oper.wpIn at *
  have e1 : o.semAt (Fence.wide.inRound r).round a.eval = execOp a.eval o := Oper.semAt_eq _ _ _ hd
  have e2 : o.semAt Fence.wide.round a.eval = execOp a.eval o := Oper.semAt_eq _ _ _ hd
  rw [e1]
  rw [e2] at hh
  refine ⟨hh.1, ?_⟩
  have h2 := hh.2
  generalize (execOp a.eval o).run P w = res at *
  cases res with
  | ok x w' =>
    cases x with
    | enter f args => exact ⟨h2.1, CallsIn.inRound r h2.2⟩
    | row row args => exact h2
    | round l f tmps assign body => exact h2
    | _ => exact h2
  | halt x w' => exact h2
def noDefer (ops : Array Oper) : Bool := ops.toList.all fun o => match o.op with | .defer _ => false | _ => true
theorem noDefer_at {i : Nat} {o : Oper} (h : noDefer ops = true) (hi : ops[i]? = some o) : ∀ c, o.op ≠ .defer c := by
  intro c e
  have hm : o ∈ ops.toList := by
    rw [← Array.getElem?_toList] at hi
    exact List.mem_of_getElem? hi
  have := List.all_eq_true.1 h o hm
  rw [e] at this
  cases this
theorem any_round {r : Nat} (hd : noDefer ops = true) : ∀ (fuel : Nat) (listed : Array Bool) (a : Act) (w : World), wpAnyIn Fence.wide n P md ops Q fuel listed a w → wpAnyIn (Fence.wide.inRound r) n P md ops Q fuel listed a w
  | 0, _, _, _, h => h
  | fuel + 1, listed, a, w, h => ⟨h.1, fun i hi => by
      have h3 := wpOpIn_mono (fun a' w' h' => any_round (r := r) hd fuel _ a' w' h') (h.2 i hi)
      unfold wpOpIn at h3 ⊢
      cases ho : ops[i]? with
      | none => rw [ho] at h3; exact h3
      | some o =>
        rw [ho] at h3
        simp only at h3 ⊢
        split
        · rename_i hw
          rw [if_pos hw] at h3
          exact op_round (noDefer_at hd ho) h3
        · rename_i hw
          rw [if_neg hw] at h3
          exact h3⟩
theorem wp_region_mixR {id r : Nat} {a : Act} {w : World} (S : World → Prop) (l : List (Nat × Bool)) (hm : P.follows .mixedOrders = true)
    (hs : Region.noSelect ops = true) (hd : noDefer ops = true) (hl : l.length = ops.size) (hok : mixOk .any ops l (Array.replicate ops.size false) = true)
    (hQ : ∀ c a d v w, Q (.panic c) (Act.put a d v) w → Q (.panic c) a w) (hS : S w.drew) (h : wpMixW n P ops Q S l a w.drew) : (Code.region id ops true).wpIn (Fence.wide.inRound r) n P Q a w := by
  refine wpIn_region_any hm (any_round hd _ _ _ _ (anyIn_of_W (S := S) _ _ _ _ ?_))
  have := mixW_sound (n := n) (md := .any) hs hQ l (Array.replicate ops.size false) a w.drew hok hS h
  rw [hl] at this
  exact this
theorem mixW_nil {a : Act} {w : World} (h : Q .normal a w) : wpMixW n P ops Q S [] a w := h
end
section
variable {n : Nat} {P : Program} {l : List Oper} {Q : Exit → Act → World → Prop} {S : World → Prop} {i : Nat} {o : Oper} {r : List (Nat × Bool)} {a : Act} {w : World} {v : Value}
theorem mixW_q (ho : lget l i = some o) (hg : o.guard = none)
    (h1 : ∀ W, S W → (execOp a.eval o).run P W = .ok (.value v) W) (h2 : wpMixW n P l.toArray Q S r (a.put o.dst v) w) : wpMixW n P l.toArray Q S ((i, true) :: r) a w :=
  ⟨o, v, (lget_eq l i).trans ho, .inl ⟨by simp [Region.wanted, hg], h1⟩, h2⟩
theorem mixW_on (ho : lget l i = some o) (hg : Region.wanted o (yielded l.toArray a.tmps) = true)
    (h1 : ∀ W, S W → (execOp a.eval o).run P W = .ok (.value v) W) (h2 : wpMixW n P l.toArray Q S r (a.put o.dst v) w) : wpMixW n P l.toArray Q S ((i, true) :: r) a w :=
  ⟨o, v, (lget_eq l i).trans ho, .inl ⟨hg, h1⟩, h2⟩
theorem mixW_off (ho : lget l i = some o) (hg : Region.wanted o (yielded l.toArray a.tmps) = false)
    (h2 : wpMixW n P l.toArray Q S r (a.put o.dst undef) w) : wpMixW n P l.toArray Q S ((i, true) :: r) a w :=
  ⟨o, undef, (lget_eq l i).trans ho, .inr ⟨hg, rfl⟩, h2⟩
theorem mixW_won (ho : lget l i = some o) (hg : Region.wanted o (yielded l.toArray a.tmps) = true)
    (h : ∀ K : Act → World → Prop, (∀ a w, S w → wpMixW n P l.toArray Q S r a w → K a w) → o.wpIn Fence.wide n P a w K Q) : wpMixW n P l.toArray Q S ((i, false) :: r) a w := by
  show wpOpIn Fence.wide n P l.toArray Q i _ a w
  unfold wpOpIn
  rw [(lget_eq l i).trans ho]
  simp only
  rw [if_pos hg]
  exact h _ fun a w h1 h2 => ⟨h1, h2⟩
theorem mixW_w (ho : lget l i = some o) (hg : o.guard = none)
    (h : ∀ K : Act → World → Prop, (∀ a w, S w → wpMixW n P l.toArray Q S r a w → K a w) → o.wpIn Fence.wide n P a w K Q) : wpMixW n P l.toArray Q S ((i, false) :: r) a w :=
  mixW_won ho (by simp [Region.wanted, hg]) h
theorem mixW_woff (ho : lget l i = some o) (hg : Region.wanted o (yielded l.toArray a.tmps) = false)
    (hS : S w) (h : wpMixW n P l.toArray Q S r (a.put o.dst undef) w) : wpMixW n P l.toArray Q S ((i, false) :: r) a w := by
  show wpOpIn Fence.wide n P l.toArray Q i _ a w
  unfold wpOpIn
  rw [(lget_eq l i).trans ho]
  simp only
  rw [if_neg (by rw [hg]; decide)]
  exact ⟨fun _ _ => trivial, hS, h⟩
end
end Go.Proofs.YtlianjnmfgakkaaDoor
