/- A region that draws its order, walked once, whose last operations (a row of them) may leave the class of worlds: two stores to cells that the region has read. -/
import Derived.Test.YtlianjnmfgakkaaDoorMixE
namespace Go.Proofs.YtlianjnmfgakkaaDoor
open Go.RowKit

section
variable {P : Program} {ops : Array Oper} {Q : Exit → Act → World → Prop} {md : Region.Mode} {S : World → Prop} {L F : List Nat}
/-- every order from here on; each operation but the late ones keeps S -/
def wpEachL (P : Program) (md : Region.Mode) (ops : Array Oper) (Q : Exit → Act → World → Prop) (S : World → Prop) (L : List Nat) (n : Nat) (listed : Array Bool) (a : Act) (w : World) : Prop :=
  match n with
  | 0 => Region.ready md ops listed = [] ∧ Q .normal a w
  | m + 1 => (Region.ready md ops listed = [] → Q .normal a w) ∧ ∀ i, i ∈ Region.ready md ops listed → wpOp P ops Q i (fun a' w' => (i ∉ L → S w → S w') ∧ wpEachL P md ops Q S L m (listed.setIfInBounds i true) a' w') a w
theorem wpEachL_any (n : Nat) : ∀ (listed : Array Bool) (a : Act) (w : World), wpEachL P md ops Q S L n listed a w → wpAny P md ops Q n listed a w := by
  induction n with
  | zero => exact fun _ _ _ h => h
  | succ m ih =>
    intro listed a w h
    rw [wpEachL] at h
    exact ⟨h.1, fun i hi => wpOp_mono (fun a' w' h' => ih _ a' w' h'.2) (h.2 i hi)⟩
/-- what is listed came behind what it waits for -/
def Closed (md : Region.Mode) (ops : Array Oper) (listed : Array Bool) : Prop :=
  ∀ j o, ops[j]? = some o → listed.getD j false = true → ∀ e ∈ o.after, Region.binds md e = true → listed.getD e.on false = true
theorem getD_mono {listed : Array Bool} {i k : Nat} (h : listed.getD k false = true) : (listed.setIfInBounds i true).getD k false = true := by
  rw [Array.getD_eq_getD_getElem?, Array.getElem?_setIfInBounds]
  split
  · split
    · rfl
    · rename_i h1 h2
      subst h1
      rw [Array.getD_eq_getD_getElem?, Array.getElem?_eq_none (by omega)] at h
      exact h
  · rw [← Array.getD_eq_getD_getElem?]
    exact h
theorem Closed.set {listed : Array Bool} (h : Closed md ops listed) {i : Nat} (hi : i ∈ Region.ready md ops listed) : Closed md ops (listed.setIfInBounds i true) := by
  intro j o hj hl e he hb
  by_cases hji : j = i
  · subst hji
    obtain ⟨-, o', ho', hall⟩ := mem_ready.1 hi
    rw [hj] at ho'
    injection ho' with ho'
    subst ho'
    exact getD_mono (hall e he hb)
  · refine getD_mono (h j o hj ?_ e he hb)
    rw [Array.getD_eq_getD_getElem?, Array.getElem?_setIfInBounds, if_neg (Ne.symm hji), ← Array.getD_eq_getD_getElem?] at hl
    exact hl
theorem Closed.start (n : Nat) : Closed md ops (Array.replicate n false) := by
  intro j o _ hl
  rw [Array.getD_eq_getD_getElem?, Array.getElem?_replicate] at hl
  split at hl <;> cases hl
/-- an operation waits for another, by way of others -/
def waitsB (md : Region.Mode) (ops : Array Oper) : Nat → Nat → Nat → Bool
  | 0, _, _ => false
  | n + 1, l, k => match ops[l]? with
    | none => false
    | some o => (o.after.any fun e => Region.binds md e && e.on == k) || o.after.any fun e => Region.binds md e && waitsB md ops n e.on k
theorem waits_done {listed : Array Bool} (hc : Closed md ops listed) {k : Nat} : ∀ (n l : Nat), (∀ o, ops[l]? = some o → ∀ e ∈ o.after, Region.binds md e = true → listed.getD e.on false = true) → waitsB md ops n l k = true → listed.getD k false = true
  | 0, _, _, h => by cases h
  | n + 1, l, hl, h => by
    rw [waitsB] at h
    split at h
    · cases h
    · rename_i o ho
      rw [Bool.or_eq_true] at h
      rcases h with h | h
      · obtain ⟨e, he, h2⟩ := Array.any_eq_true'.1 h
        rw [Bool.and_eq_true] at h2
        have h3 := hl o ho e he h2.1
        rwa [show e.on = k by simpa using h2.2] at h3
      · obtain ⟨e, he, h2⟩ := Array.any_eq_true'.1 h
        rw [Bool.and_eq_true] at h2
        exact waits_done hc n e.on (fun o' ho' => hc e.on o' ho' (hl o ho e he h2.1)) h2.2
/-- the late operations wait for all others but those of F, which look at no world -/
def lateB (md : Region.Mode) (ops : Array Oper) (L F : List Nat) : Bool :=
  L.all fun l => (List.range ops.size).all fun k => L.contains k || F.contains k || waitsB md ops 6 l k
theorem late_waits (h : lateB md ops L F = true) {listed : Array Bool} (hc : Closed md ops listed) {l : Nat} (hlL : l ∈ L) (hL : l ∈ Region.ready md ops listed) {k : Nat} (hk : k < ops.size) (hne : k ∉ L) (hF : k ∉ F) : listed.getD k false = true := by
  obtain ⟨-, o, ho, hall⟩ := mem_ready.1 hL
  have h0 := List.all_eq_true.1 h l hlL
  have h1 := List.all_eq_true.1 h0 k (List.mem_range.2 hk)
  rw [Bool.or_eq_true, Bool.or_eq_true] at h1
  rcases h1 with (h1 | h1) | h1
  · exact absurd (by simpa using h1) hne
  · exact absurd (by simpa using h1) hF
  · exact waits_done hc 6 l (fun o' ho' => by rw [ho] at ho'; injection ho' with ho'; subst ho'; exact hall) h1
/-- an operation that the class S decides (strong: S holds now), or that no world matters to -/
theorem wpEachL_take {i : Nat} {o : Oper} {v : Value} (hlast : lateB md ops L F = true) (hi : ops[i]? = some o) (hs : Region.noSelect ops = true)
    (hQ : ∀ c a w, Q (.panic c) (a.put o.dst v) w → Q (.panic c) a w) {C : World → Prop} (hC : (C = S ∧ i ∉ L ∧ i ∉ F) ∨ C = fun _ => True) (n : Nat) :
    ∀ (listed : Array Bool) (a : Act) (w : World), Closed md ops listed → (∀ j oj, ops[j]? = some oj → j ≠ i → listed.getD j true = false → (∀ e ∈ oj.after, Region.binds md e = true → e.on ≠ i) → o.apart ops oj = true) →
      i ∈ Region.ready md ops listed → YieldsIf P ops C o v a → C w → wpEachL P md ops Q S L n (listed.setIfInBounds i true) (a.put o.dst v) w → wpEachL P md ops Q S L (n + 1) listed a w := by
  have hsel := Region.noSelect_spec hs
  have hisz : i < ops.size := by
    rcases Nat.lt_or_ge i ops.size with h | h
    · exact h
    · rw [Array.getElem?_eq_none h] at hi; cases hi
  induction n with
  | zero =>
    intro listed a w _ _ hr hy hw H
    rw [wpEachL]
    refine ⟨fun h => absurd hr (by rw [h]; exact List.not_mem_nil), fun j hj => ?_⟩
    rcases Nat.decEq j i with hne | heq
    · have h0 := ready_mono hj hne
      rw [wpEachL] at H
      rw [H.1] at h0
      exact absurd h0 List.not_mem_nil
    · subst heq
      exact hy.wpOp hi hw ⟨fun _ h => h, H⟩
  | succ m ih =>
    intro listed a w hcl hap hr hy hw H
    rw [wpEachL]
    refine ⟨fun h => absurd hr (by rw [h]; exact List.not_mem_nil), fun j hj => ?_⟩
    rcases Nat.decEq j i with hne | heq
    · obtain ⟨hjun, oj, hoj, hall⟩ := mem_ready.1 hj
      have hun := (mem_ready.1 hr).1
      have hunf : listed.getD i false ≠ true := by
        intro h1
        rcases Nat.lt_or_ge i listed.size with hlt | hge
        · simp [hlt] at hun h1
          rw [hun] at h1
          exact Bool.false_ne_true h1
        · simp [Array.getElem?_eq_none hge] at h1
      have hnot : ∀ e ∈ oj.after, Region.binds md e = true → e.on ≠ i := by
        intro e he hb h
        have h1 := hall e he hb
        rw [h] at h1
        exact hunf h1
      rw [wpEachL] at H
      have h2 := wpOp_putIf hoj (hap j oj hoj hne hjun hnot) (fun cs b => hsel i o cs b hi) (fun cs b => hsel j oj cs b hoj) hQ hy (H.2 j (ready_mono hj hne))
      refine wpOp_mono (fun a' w' h => ⟨h.2.1, ih _ a' w' (hcl.set hj) ?_ (ready_mono hr (Ne.symm hne)) h.1 ?_ ?_⟩) h2
      · intro k ok hk hki hkun hkno
        refine hap k ok hk hki ?_ hkno
        rcases Nat.decEq j k with hjk | hjk
        · rwa [getD_set_ne true hjk] at hkun
        · exact hjk ▸ hjun
      · rcases hC with ⟨rfl, hiL, hiF⟩ | rfl
        · exact h.2.1 (fun hjL => hunf (late_waits hlast hcl hjL hj hisz hiL hiF)) hw
        · trivial
      · rw [Array.setIfInBounds_comm _ _ hne]
        exact h.2.2
    · subst heq
      exact hy.wpOp hi hw ⟨fun _ h => h, H⟩
def wpMixL (P : Program) (ops : Array Oper) (Q : Exit → Act → World → Prop) (S : World → Prop) (L F : List Nat) : List (Nat × Bool) → Act → World → Prop
  | [], a, w => Q .normal a w
  | (i, true) :: r, a, w => ∃ o v, ops[i]? = some o ∧ ((i ∉ L ∧ i ∉ F ∧ YieldsIf P ops S o v a) ∨ YieldsIf P ops (fun _ => True) o v a) ∧ wpMixL P ops Q S L F r (a.put o.dst v) w
  | (i, false) :: r, a, w => wpOp P ops Q i (fun a' w' => (i ∉ L → S w') ∧ wpMixL P ops Q S L F r a' w') a w
/-- the late operations come last, each in turn -/
def lateE (L : List Nat) : List (Nat × Bool) → Bool
  | [] => true
  | (i, b) :: r => if L.contains i then !b && r.all (fun p => !p.2) else lateE L r
theorem mixL_tail (l : List (Nat × Bool)) : ∀ (listed : Array Bool) (a : Act) (w : World), mixOk md ops l listed = true → (l.all fun p => !p.2) = true → wpMixL P ops Q S L F l a w → wpEachL P md ops Q S L l.length listed a w := by
  induction l with
  | nil => exact fun listed a w hok _ h => ⟨by simpa [mixOk] using hok, h⟩
  | cons x r ih =>
    obtain ⟨i, b⟩ := x
    intro listed a w hok he h
    rw [List.all_cons, Bool.and_eq_true] at he
    obtain rfl : b = false := by simpa using he.1
    simp only [mixOk, Bool.and_eq_true, beq_iff_eq] at hok
    show wpEachL P md ops Q S L (r.length + 1) listed a w
    rw [wpEachL]
    refine ⟨fun h0 => (by rw [hok.1] at h0; cases h0), fun j hj => ?_⟩
    rw [hok.1] at hj
    obtain rfl : j = i := by simpa using hj
    exact wpOp_mono (fun a' w' h1 => ⟨fun h2 _ => h1.1 h2, ih _ a' w' hok.2 he.2 h1.2⟩) h
theorem mixL_sound (hlast : lateB md ops L F = true) (hs : Region.noSelect ops = true) (hQ : ∀ c a d v w, Q (.panic c) (Act.put a d v) w → Q (.panic c) a w) :
    ∀ (l : List (Nat × Bool)) (listed : Array Bool) (a : Act) (w : World), Closed md ops listed → mixOk md ops l listed = true → lateE L l = true → S w → wpMixL P ops Q S L F l a w → wpEachL P md ops Q S L l.length listed a w
  | [], listed, a, w, _, hok, _, _, h => ⟨by simpa [mixOk] using hok, h⟩
  | (i, true) :: r, listed, a, w, hcl, hok, he, hS, h => by
    simp only [mixOk, Bool.and_eq_true] at hok
    obtain ⟨o, v, ho, hy, hr⟩ := h
    have he2 : lateE L r = true := by
      unfold lateE at he
      split at he
      · simp at he
      · exact he
    have hrd : i ∈ Region.ready md ops listed := by simpa using hok.1
    have hrec := mixL_sound hlast hs hQ r _ _ _ (hcl.set hrd) hok.2.2 he2 hS hr
    rcases hy with ⟨h1, h2, hy⟩ | hy
    · exact wpEachL_take hlast ho hs (fun c a w => hQ c a _ _ w) (.inl ⟨rfl, h1, h2⟩) r.length listed a w hcl (Region.free_spec ho hok.2.1) hrd hy hS hrec
    · exact wpEachL_take hlast ho hs (fun c a w => hQ c a _ _ w) (.inr rfl) r.length listed a w hcl (Region.free_spec ho hok.2.1) hrd hy trivial hrec
  | (i, false) :: r, listed, a, w, hcl, hok, he, hS, h => by
    by_cases hc : L.contains i = true
    · unfold lateE at he
      rw [if_pos hc] at he
      exact mixL_tail ((i, false) :: r) listed a w hok (by rw [List.all_cons]; exact he) h
    · unfold lateE at he
      rw [if_neg hc] at he
      simp only [mixOk, Bool.and_eq_true, beq_iff_eq] at hok
      have hrd : i ∈ Region.ready md ops listed := by rw [hok.1]; exact List.mem_singleton.2 rfl
      show wpEachL P md ops Q S L (r.length + 1) listed a w
      rw [wpEachL]
      refine ⟨fun h0 => (by rw [hok.1] at h0; cases h0), fun j hj => ?_⟩
      rw [hok.1] at hj
      obtain rfl : j = i := by simpa using hj
      exact wpOp_mono (fun a' w' h1 => ⟨fun h2 _ => h1.1 h2, mixL_sound hlast hs hQ r _ _ _ (hcl.set hrd) hok.2 he (h1.1 (by simpa using hc)) h1.2⟩) h
theorem wp_region_mixL {id : Nat} {a : Act} {w : World} (S : World → Prop) (L F : List Nat) (l : List (Nat × Bool)) (hm : P.follows .mixedOrders = true)
    (hs : Region.noSelect ops = true) (hl : l.length = ops.size) (hok : mixOk .any ops l (Array.replicate ops.size false) = true) (hlast : lateB .any ops L F = true) (he : lateE L l = true)
    (hQ : ∀ c a d v w, Q (.panic c) (Act.put a d v) w → Q (.panic c) a w) (hS : S w.drew) (h : wpMixL P ops Q S L F l a w.drew) : (Code.region id ops true).wp P Q a w := by
  refine wp_region_any hm ?_
  have := wpEachL_any _ _ _ _ (mixL_sound (md := .any) hlast hs hQ l (Array.replicate ops.size false) a w.drew (Closed.start _) hok he hS h)
  rw [hl] at this
  exact this
theorem mixL_nil {a : Act} {w : World} (h : Q .normal a w) : wpMixL P ops Q S L F [] a w := h
end
section
variable {P : Program} {l : List Oper} {Q : Exit → Act → World → Prop} {S : World → Prop} {i : Nat} {L F : List Nat} {o : Oper} {r : List (Nat × Bool)} {a : Act} {w : World} {v : Value}
theorem mixL_q (hL : (L.contains i || F.contains i) = false) (ho : lget l i = some o) (hg : o.guard = none)
    (h1 : ∀ W, S W → (execOp a.eval o).run P W = .ok (.value v) W) (h2 : wpMixL P l.toArray Q S L F r (a.put o.dst v) w) : wpMixL P l.toArray Q S L F ((i, true) :: r) a w := by
  rw [Bool.or_eq_false_iff] at hL
  exact ⟨o, v, (lget_eq l i).trans ho, .inl ⟨by simpa using hL.1, by simpa using hL.2, .inl ⟨by simp [Region.wanted, hg], h1⟩⟩, h2⟩
theorem mixL_f (ho : lget l i = some o) (hg : o.guard = none)
    (h1 : ∀ W, (execOp a.eval o).run P W = .ok (.value v) W) (h2 : wpMixL P l.toArray Q S L F r (a.put o.dst v) w) : wpMixL P l.toArray Q S L F ((i, true) :: r) a w :=
  ⟨o, v, (lget_eq l i).trans ho, .inr (.inl ⟨by simp [Region.wanted, hg], fun W _ => h1 W⟩), h2⟩
theorem mixL_w (ho : lget l i = some o) (hg : o.guard = none)
    (h : ∀ K : Act → World → Prop, (∀ a w, (i ∉ L → S w) → wpMixL P l.toArray Q S L F r a w → K a w) → o.wp P a w K Q) : wpMixL P l.toArray Q S L F ((i, false) :: r) a w := by
  show wpOp P l.toArray Q i _ a w
  unfold wpOp
  rw [(lget_eq l i).trans ho]
  simp only
  rw [if_pos (by simp [Region.wanted, hg])]
  exact .inl (h _ fun a w h1 h2 => ⟨h1, h2⟩)
end
end Go.Proofs.YtlianjnmfgakkaaDoor
