/- A region that draws its order, walked once, whose last operation may leave the class of worlds (a store to a cell that the region has read). -/
import Derived.Test.YtlianjnmfgakkaaDoorMix
namespace Go.Proofs.YtlianjnmfgakkaaDoor
open Go.RowKit

section
variable {P : Program} {ops : Array Oper} {Q : Exit → Act → World → Prop} {md : Region.Mode} {S : World → Prop} {L : Nat}
/-- every order from here on; behind each operation but the L-th S holds -/
def wpEach (P : Program) (md : Region.Mode) (ops : Array Oper) (Q : Exit → Act → World → Prop) (S : World → Prop) (L n : Nat) (listed : Array Bool) (a : Act) (w : World) : Prop :=
  match n with
  | 0 => Region.ready md ops listed = [] ∧ Q .normal a w
  | m + 1 => (Region.ready md ops listed = [] → Q .normal a w) ∧ ∀ i, i ∈ Region.ready md ops listed → wpOp P ops Q i (fun a' w' => (i ≠ L → S w') ∧ wpEach P md ops Q S L m (listed.setIfInBounds i true) a' w') a w
theorem wpEach_any (n : Nat) : ∀ (listed : Array Bool) (a : Act) (w : World), wpEach P md ops Q S L n listed a w → wpAny P md ops Q n listed a w := by
  induction n with
  | zero => exact fun _ _ _ h => h
  | succ m ih =>
    intro listed a w h
    rw [wpEach] at h
    exact ⟨h.1, fun i hi => wpOp_mono (fun a' w' h' => ih _ a' w' h'.2) (h.2 i hi)⟩
/-- the L-th operation waits for all others -/
def lastB (md : Region.Mode) (ops : Array Oper) (L : Nat) : Bool :=
  match ops[L]? with
  | none => false
  | some o => (List.range ops.size).all fun k => k == L || o.after.any fun e => Region.binds md e && e.on == k
theorem last_waits (h : lastB md ops L = true) {listed : Array Bool} (hL : L ∈ Region.ready md ops listed) {k : Nat} (hk : k < ops.size) (hne : k ≠ L) : listed.getD k false = true := by
  obtain ⟨-, o, ho, hall⟩ := mem_ready.1 hL
  unfold lastB at h
  rw [ho] at h
  have h1 := List.all_eq_true.1 h k (List.mem_range.2 hk)
  rw [Bool.or_eq_true] at h1
  rcases h1 with h1 | h1
  · exact absurd (by simpa using h1) hne
  · obtain ⟨e, he, h2⟩ := Array.any_eq_true'.1 h1
    rw [Bool.and_eq_true] at h2
    have h3 := hall e he h2.1
    rwa [show e.on = k by simpa using h2.2] at h3
theorem wpEach_take {i : Nat} {o : Oper} {v : Value} (hlast : lastB md ops L = true) (hi : ops[i]? = some o) (hs : Region.noSelect ops = true)
    (hQ : ∀ c a w, Q (.panic c) (a.put o.dst v) w → Q (.panic c) a w) (hiL : i ≠ L) (n : Nat) :
    ∀ (listed : Array Bool) (a : Act) (w : World), (∀ j oj, ops[j]? = some oj → j ≠ i → listed.getD j true = false → (∀ e ∈ oj.after, Region.binds md e = true → e.on ≠ i) → o.apart ops oj = true) →
      i ∈ Region.ready md ops listed → YieldsIf P ops S o v a → S w → wpEach P md ops Q S L n (listed.setIfInBounds i true) (a.put o.dst v) w → wpEach P md ops Q S L (n + 1) listed a w := by
  have hsel := Region.noSelect_spec hs
  have hisz : i < ops.size := by
    rcases Nat.lt_or_ge i ops.size with h | h
    · exact h
    · rw [Array.getElem?_eq_none h] at hi; cases hi
  induction n with
  | zero =>
    intro listed a w _ hr hy hw H
    rw [wpEach]
    refine ⟨fun h => absurd hr (by rw [h]; exact List.not_mem_nil), fun j hj => ?_⟩
    rcases Nat.decEq j i with hne | heq
    · have h0 := ready_mono hj hne
      rw [wpEach] at H
      rw [H.1] at h0
      exact absurd h0 List.not_mem_nil
    · subst heq
      exact hy.wpOp hi hw ⟨fun _ => hw, H⟩
  | succ m ih =>
    intro listed a w hap hr hy hw H
    rw [wpEach]
    refine ⟨fun h => absurd hr (by rw [h]; exact List.not_mem_nil), fun j hj => ?_⟩
    rcases Nat.decEq j i with hne | heq
    · obtain ⟨hjun, oj, hoj, hall⟩ := mem_ready.1 hj
      have hun := (mem_ready.1 hr).1
      have hunf : listed.getD i false ≠ true := by
        intro h1
        rcases Nat.lt_or_ge i listed.size with hlt | hge
        · simp [hlt] at hun h1
          rw [hun] at h1
          exact Bool.false_ne_true h1
        · simp [Array.getElem?_eq_none hge] at h1
      have hjL : j ≠ L := by
        intro h
        subst h
        exact hunf (last_waits hlast hj hisz (Ne.symm hne))
      have hnot : ∀ e ∈ oj.after, Region.binds md e = true → e.on ≠ i := by
        intro e he hb h
        have h1 := hall e he hb
        rw [h] at h1
        exact hunf h1
      rw [wpEach] at H
      have h2 := wpOp_putIf hoj (hap j oj hoj hne hjun hnot) (fun cs b => hsel i o cs b hi) (fun cs b => hsel j oj cs b hoj) hQ hy (H.2 j (ready_mono hj hne))
      refine wpOp_mono (fun a' w' h => ⟨h.2.1, ih _ a' w' ?_ (ready_mono hr (Ne.symm hne)) h.1 (h.2.1 hjL) ?_⟩) h2
      · intro k ok hk hki hkun hkno
        refine hap k ok hk hki ?_ hkno
        rcases Nat.decEq j k with hjk | hjk
        · rwa [getD_set_ne true hjk] at hkun
        · exact hjk ▸ hjun
      · rw [Array.setIfInBounds_comm _ _ hne]
        exact h.2.2
    · subst heq
      exact hy.wpOp hi hw ⟨fun _ => hw, H⟩
def wpMixE (P : Program) (ops : Array Oper) (Q : Exit → Act → World → Prop) (S : World → Prop) (L : Nat) : List (Nat × Bool) → Act → World → Prop
  | [], a, w => Q .normal a w
  | (i, true) :: r, a, w => ∃ o v, ops[i]? = some o ∧ YieldsIf P ops S o v a ∧ wpMixE P ops Q S L r (a.put o.dst v) w
  | (i, false) :: r, a, w => wpOp P ops Q i (fun a' w' => (i ≠ L → S w') ∧ wpMixE P ops Q S L r a' w') a w
/-- the L-th operation comes last, and in turn -/
def endsB (L : Nat) : List (Nat × Bool) → Bool
  | [] => true
  | [(i, false)] => i == L
  | (i, _) :: r => i != L && endsB L r
theorem mixE_sound (hlast : lastB md ops L = true) (hs : Region.noSelect ops = true) (hQ : ∀ c a d v w, Q (.panic c) (Act.put a d v) w → Q (.panic c) a w) :
    ∀ (l : List (Nat × Bool)) (listed : Array Bool) (a : Act) (w : World), mixOk md ops l listed = true → endsB L l = true → S w → wpMixE P ops Q S L l a w → wpEach P md ops Q S L l.length listed a w
  | [], listed, a, w, hok, _, _, h => ⟨by simpa [mixOk] using hok, h⟩
  | (i, true) :: r, listed, a, w, hok, he, hS, h => by
    simp only [mixOk, Bool.and_eq_true] at hok
    obtain ⟨o, v, ho, hy, hr⟩ := h
    have he2 : (i != L) = true ∧ endsB L r = true := by
      cases r with
      | nil => simp [endsB] at he; exact ⟨by simpa using he, rfl⟩
      | cons x r => simpa [endsB] using he
    exact wpEach_take hlast ho hs (fun c a w => hQ c a _ _ w) (by simpa using he2.1) r.length listed a w (Region.free_spec ho hok.2.1) (by simpa using hok.1) hy hS (mixE_sound hlast hs hQ r _ _ _ hok.2.2 he2.2 hS hr)
  | (i, false) :: r, listed, a, w, hok, he, hS, h => by
    simp only [mixOk, Bool.and_eq_true, beq_iff_eq] at hok
    show wpEach P md ops Q S L (r.length + 1) listed a w
    rw [wpEach]
    refine ⟨fun h0 => (by rw [hok.1] at h0; cases h0), fun j hj => ?_⟩
    rw [hok.1] at hj
    obtain rfl : j = i := by simpa using hj
    refine wpOp_mono (fun a' w' h1 => ⟨h1.1, ?_⟩) h
    cases r with
    | nil => exact ⟨by have := hok.2; simpa [mixOk] using this, h1.2⟩
    | cons x r =>
      have he2 : (j != L) = true ∧ endsB L (x :: r) = true := by simpa [endsB] using he
      exact mixE_sound hlast hs hQ (x :: r) _ _ _ hok.2 he2.2 (h1.1 (by simpa using he2.1)) h1.2
theorem wp_region_mixE {id : Nat} {a : Act} {w : World} (S : World → Prop) (L : Nat) (l : List (Nat × Bool)) (hm : P.follows .mixedOrders = true)
    (hs : Region.noSelect ops = true) (hl : l.length = ops.size) (hok : mixOk .any ops l (Array.replicate ops.size false) = true) (hlast : lastB .any ops L = true) (he : endsB L l = true)
    (hQ : ∀ c a d v w, Q (.panic c) (Act.put a d v) w → Q (.panic c) a w) (hS : S w.drew) (h : wpMixE P ops Q S L l a w.drew) : (Code.region id ops true).wp P Q a w := by
  refine wp_region_any hm ?_
  have := wpEach_any _ _ _ _ (mixE_sound (md := .any) hlast hs hQ l (Array.replicate ops.size false) a w.drew hok he hS h)
  rw [hl] at this
  exact this
theorem mixE_nil {a : Act} {w : World} (h : Q .normal a w) : wpMixE P ops Q S L [] a w := h
end
section
variable {P : Program} {l : List Oper} {Q : Exit → Act → World → Prop} {S : World → Prop} {i L : Nat} {o : Oper} {r : List (Nat × Bool)} {a : Act} {w : World} {v : Value}
theorem mixE_q (ho : lget l i = some o) (hg : o.guard = none)
    (h1 : ∀ W, S W → (execOp a.eval o).run P W = .ok (.value v) W) (h2 : wpMixE P l.toArray Q S L r (a.put o.dst v) w) : wpMixE P l.toArray Q S L ((i, true) :: r) a w :=
  ⟨o, v, (lget_eq l i).trans ho, .inl ⟨by simp [Region.wanted, hg], h1⟩, h2⟩
theorem mixE_w (ho : lget l i = some o) (hg : o.guard = none)
    (h : ∀ K : Act → World → Prop, (∀ a w, (i ≠ L → S w) → wpMixE P l.toArray Q S L r a w → K a w) → o.wp P a w K Q) : wpMixE P l.toArray Q S L ((i, false) :: r) a w := by
  show wpOp P l.toArray Q i _ a w
  unfold wpOp
  rw [(lget_eq l i).trans ho]
  simp only
  rw [if_pos (by simp [Region.wanted, hg])]
  exact .inl (h _ fun a w h1 h2 => ⟨h1, h2⟩)
end
end Go.Proofs.YtlianjnmfgakkaaDoor
