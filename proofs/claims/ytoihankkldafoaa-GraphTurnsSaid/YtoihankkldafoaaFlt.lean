/- A region that draws its order, in which some operations lay new boxes ("floats": nothing binds them) and may come up at any time ahead of the last ones. The others, a chain, are walked each in an arbitrary grown world; the floats' pointers are arbitrary until the chain's end. -/
import Derived.Test.YtoihankkldafoaaMix
namespace Go.Proofs.Ytoihankkldafoaa
open Go.RowKit

section
variable {P : Program} {ops : Array Oper} {Q : Exit → Act → World → Prop} {md : Region.Mode}
/-- the floats' slots, filled -/
def puts : List (Option Tmp × Nat) → Act → (Nat → Value) → Act
  | [], a, _ => a
  | (d, g) :: r, a, x => puts r (a.put d (x g)) x
def upd (x : Nat → Value) (g : Nat) (v : Value) : Nat → Value := fun j => if j = g then v else x j
theorem put_put (a : Act) (d : Option Tmp) (u v : Value) : (a.put d u).put d v = a.put d v := by
  cases d with
  | none => rfl
  | some d => simp [Act.put]
theorem puts_put : ∀ (ds : List (Option Tmp × Nat)) (a : Act) (x : Nat → Value) (d : Option Tmp) (v : Value), (∀ p ∈ ds, ∀ t, p.1 = some t → d ≠ some t) → (puts ds a x).put d v = puts ds (a.put d v) x
  | [], _, _, _, _, _ => rfl
  | (d0, g0) :: r, a, x, d, v, h => by
    rw [puts, puts, puts_put r _ x d v (fun p hp => h p (List.mem_cons_of_mem _ hp)), Act.put_comm a (x g0) v (fun t ht => h _ List.mem_cons_self t ht)]
theorem puts_same : ∀ (ds : List (Option Tmp × Nat)) (a : Act) (x : Nat → Value) (g : Nat) (v : Value), g ∉ ds.map (·.2) → puts ds a (upd x g v) = puts ds a x
  | [], _, _, _, _, _ => rfl
  | (d0, g0) :: r, a, x, g, v, h => by
    rw [puts, puts, puts_same r _ x g v (fun hc => h (List.mem_cons_of_mem _ hc))]
    have : g0 ≠ g := fun hc => h (by rw [← hc]; exact List.mem_cons_self)
    rw [show upd x g v g0 = x g0 by unfold upd; rw [if_neg this]]
theorem puts_upd : ∀ (ds : List (Option Tmp × Nat)) (a : Act) (x : Nat → Value) (d : Option Tmp) (g : Nat) (v : Value), (ds.map (·.1)).Nodup → (ds.map (·.2)).Nodup → (∀ p ∈ ds, p.1 ≠ none) → (d, g) ∈ ds → (puts ds a x).put d v = puts ds a (upd x g v)
  | [], _, _, _, _, _, _, _, _, h => by cases h
  | (d0, g0) :: r, a, x, d, g, v, h1, h2, h3, h => by
    rw [List.map_cons, List.nodup_cons] at h1 h2
    rw [puts, puts]
    rcases List.mem_cons.1 h with h | h
    · injection h with ha hb
      subst ha hb
      rw [puts_put r _ x d v (fun p hp t ht hc => h1.1 (by rw [hc, ← ht]; exact List.mem_map_of_mem (f := (·.1)) hp)), put_put, puts_same r _ x g v h2.1]
      rw [show upd x g v g = v by unfold upd; rw [if_pos rfl]]
    · rw [puts_upd r _ x d g v h1.2 h2.2 (fun p hp => h3 p (List.mem_cons_of_mem _ hp)) h]
      have : g0 ≠ g := fun hc => h2.1 (by rw [hc]; exact List.mem_map_of_mem (f := (·.2)) h)
      rw [show upd x g v g0 = x g0 by unfold upd; rw [if_neg this]]
/-- a float that came up: its pointer and its box -/
def FOne (base : Nat) (Oj : Nat → Obj) (x : Nat → Value) (W : World) (g : Nat) : Prop := ∃ p, x g = .pointer (some ⟨p, 0, none⟩) ∧ W.heap[p]? = some (Oj g) ∧ base ≤ p
def FAll (base : Nat) (Oj : Nat → Obj) (x : Nat → Value) (W : World) (D : List Nat) : Prop := (∀ g ∈ D, FOne base Oj x W g) ∧ ∀ g ∈ D, ∀ h ∈ D, g ≠ h → x g ≠ x h
theorem FAll.ext {base : Nat} {Oj : Nat → Obj} {x : Nat → Value} {W W' : World} {D : List Nat} (h : FAll base Oj x W D) (hE : Ext W W') : FAll base Oj x W' D := by
  refine ⟨fun g hg => ?_, h.2⟩
  obtain ⟨p, h1, h2, h3⟩ := h.1 g hg
  refine ⟨p, h1, ?_, h3⟩
  rw [hE.block p (lt_of_block h2)]
  exact h2
/-- may the chain come up in this order, the floats at any time, and the rest behind all floats? L: what has come up, the floats counted in -/
def fltOk (md : Region.Mode) (ops : Array Oper) (ds : List (Option Tmp × Nat)) (l2 : List (Nat × Bool)) : List (Nat × Bool) → Array Bool → Bool
  | [], L => mixOk md ops l2 L && (List.range ops.size).all fun j => L.getD j true || ds.all fun p => match ops[j]? with
      | some o => o.after.any fun e => Region.binds md e && e.on == p.2
      | none => false
  | (i, b) :: r, L => match ops[i]? with
      | none => false
      | some o => (o.after.all fun e => !Region.binds md e || !(ds.any fun p => p.2 == e.on)) && (if b then (Region.ready md ops L).contains i && Region.free md ops L i && ds.all (fun p => (match ops[p.2]? with | some og => o.apart ops og | none => false) && !(p.1 == o.dst)) else Region.ready md ops L == [i]) && fltOk md ops ds l2 r (L.setIfInBounds i true)

def wpFlt (P : Program) (ops : Array Oper) (Q : Exit → Act → World → Prop) (ds : List (Option Tmp × Nat)) (Oj : Nat → Obj) (w1 : World) (l2 : List (Nat × Bool)) : List (Nat × Bool) → Act → World → Prop
  | [], a, w => ∀ W x, Ext w W → FAll w1.heap.size Oj x W (ds.map (·.2)) → wpMix P ops Q (Ext w1) l2 (puts ds a x) W
  | (i, true) :: r, a, w => ∃ o v, ops[i]? = some o ∧ (∀ x, YieldsIf P ops (Ext w1) o v (puts ds a x)) ∧ wpFlt P ops Q ds Oj w1 l2 r (a.put o.dst v) w
  | (i, false) :: r, a, w => ∀ W x, Ext w W → wpOp P ops Q i (fun a' w' => Ext W w' ∧ puts ds a' x = a' ∧ wpFlt P ops Q ds Oj w1 l2 r a' w') (puts ds a x) W

/-- what has come up: as in L, but for the floats in U -/
structure RelL (listed L : Array Bool) (U : List Nat) : Prop where
  size : listed.size = L.size
  off : ∀ j ∈ U, listed[j]? = some false
  same : ∀ j, j ∉ U → listed[j]? = L[j]?
theorem RelL.set {listed L : Array Bool} {U : List Nat} (h : RelL listed L U) {i : Nat} (hi : i ∉ U) : RelL (listed.setIfInBounds i true) (L.setIfInBounds i true) U := by
  refine ⟨by simp [h.size], fun j hj => ?_, fun j hj => ?_⟩
  · have hne : i ≠ j := fun hc => hi (by rw [hc]; exact hj)
    rw [Array.getElem?_setIfInBounds_ne hne]; exact h.off j hj
  · rw [Array.getElem?_setIfInBounds, Array.getElem?_setIfInBounds, h.same j hj, h.size]
theorem RelL.done {listed L : Array Bool} {U : List Nat} (h : RelL listed L U) {g : Nat} (hg : g ∈ U) (hL : L[g]? = some true) (hn : U.Nodup) : RelL (listed.setIfInBounds g true) L (U.erase g) := by
  refine ⟨by simp [h.size], fun j hj => ?_, fun j hj => ?_⟩
  · rw [hn.mem_erase_iff] at hj
    rw [Array.getElem?_setIfInBounds_ne (Ne.symm hj.1)]; exact h.off j hj.2
  · by_cases hjg : j = g
    · subst hjg
      have hs : j < listed.size := by
        have := h.off j hg
        exact (Array.getElem?_eq_some_iff.1 this).1
      rw [Array.getElem?_setIfInBounds_self_of_lt hs, hL]
    · rw [Array.getElem?_setIfInBounds_ne (Ne.symm hjg)]
      exact h.same j (fun hc => hj (by rw [hn.mem_erase_iff]; exact ⟨hjg, hc⟩))
theorem getD_of {listed : Array Bool} {j : Nat} (d : Bool) : listed.getD j d = listed[j]?.getD d := by simp
theorem not_in_fun {ds : List (Option Tmp × Nat)} {j : Nat} (h : (ds.any fun p => p.2 == j) = false) : j ∉ ds.map (·.2) := by
  intro hc
  obtain ⟨p, hp, rfl⟩ := List.mem_map.1 hc
  rw [List.any_eq_false] at h
  exact h p hp (by simp)
/-- an operation that waits for no float may come up now if it may with all floats up -/
theorem ready_down {listed L : Array Bool} {U : List Nat} {ds : List (Option Tmp × Nat)} (hR : RelL listed L U) (hU : ∀ j ∈ U, j ∈ ds.map (·.2)) {i : Nat} {o : Oper} (ho : ops[i]? = some o) (hiU : i ∉ U)
    (hind : ∀ e ∈ o.after, Region.binds md e = true → e.on ∉ ds.map (·.2)) (hr : i ∈ Region.ready md ops L) : i ∈ Region.ready md ops listed := by
  rw [mem_ready] at hr ⊢
  obtain ⟨h0, o', ho', hall⟩ := hr
  rw [ho] at ho'
  injection ho' with ho'
  subst ho'
  refine ⟨?_, o, ho, fun e he hb => ?_⟩
  · rw [getD_of, hR.same i hiU, ← getD_of]; exact h0
  · rw [getD_of, hR.same e.on (fun hc => hind e he hb (hU _ hc)), ← getD_of]; exact hall e he hb
theorem ready_up {listed L : Array Bool} {U : List Nat} (hR : RelL listed L U) {j : Nat} (hjU : j ∉ U) (hr : j ∈ Region.ready md ops listed) : j ∈ Region.ready md ops L := by
  rw [mem_ready] at hr ⊢
  obtain ⟨h0, o, ho, hall⟩ := hr
  refine ⟨?_, o, ho, fun e he hb => ?_⟩
  · rw [getD_of, ← hR.same j hjU, ← getD_of]; exact h0
  · have h1 := hall e he hb
    have hne : e.on ∉ U := by
      intro hc
      rw [getD_of, hR.off _ hc] at h1
      cases h1
    rw [getD_of, ← hR.same _ hne, ← getD_of]; exact h1
theorem ready_float {listed L : Array Bool} {U : List Nat} (hR : RelL listed L U) {g : Nat} {o : Oper} (ho : ops[g]? = some o) (haf : o.after = #[]) (hg : g ∈ U) : g ∈ Region.ready md ops listed := by
  rw [mem_ready]
  refine ⟨by rw [getD_of, hR.off g hg]; rfl, o, ho, fun e he => ?_⟩
  rw [haf] at he
  simp at he
structure Floats (P : Program) (ops : Array Oper) (Q : Exit → Act → World → Prop) (ds : List (Option Tmp × Nat)) (Oj : Nat → Obj) : Prop where
  at_ : ∀ p ∈ ds, ∃ o, ops[p.2]? = some o ∧ o.after = #[]
  lays : ∀ p ∈ ds, ∀ (K : Act → World → Prop) a w, K (a.put p.1 (.pointer (some ⟨w.heap.size, 0, none⟩))) (w.alloc (Oj p.2)) → wpOp P ops Q p.2 K a w
  nd1 : (ds.map (·.1)).Nodup
  nd2 : (ds.map (·.2)).Nodup
  some_ : ∀ p ∈ ds, p.1 ≠ none
theorem flt_sound (hs : Region.noSelect ops = true) (hQ : ∀ c a d v w, Q (.panic c) (Act.put a d v) w → Q (.panic c) a w) {ds : List (Option Tmp × Nat)} {Oj : Nat → Obj} {w1 : World} {l2 : List (Nat × Bool)} (hF : Floats P ops Q ds Oj) :
    ∀ (k : Nat) (l1 : List (Nat × Bool)) (U : List Nat) (listed L : Array Bool) (a : Act) (w : World) (x : Nat → Value) (W : World), U.length + l1.length = k → U.Nodup → (∀ j ∈ U, j ∈ ds.map (·.2)) → (∀ j ∈ ds.map (·.2), L[j]? = some true) → RelL listed L U → fltOk md ops ds l2 l1 L = true →
      Ext w1 w → Ext w W → FAll w1.heap.size Oj x W ((ds.map (·.2)).filter fun g => !U.contains g) → wpFlt P ops Q ds Oj w1 l2 l1 a w → wpAnyH P md ops Q (Ext w1) (k + l2.length) listed (puts ds a x) W := by
  intro k
  induction k with
  | zero =>
    intro l1 U listed L a w x W hk hn hU hL hR hok hw1 hE hA h
    obtain rfl : U = [] := List.eq_nil_of_length_eq_zero (by omega)
    obtain rfl : l1 = [] := List.eq_nil_of_length_eq_zero (by omega)
    have hLL : listed = L := by
      apply Array.ext_getElem?
      intro j
      exact hR.same j (by simp)
    subst hLL
    rw [fltOk, Bool.and_eq_true] at hok
    rw [Nat.zero_add]
    refine mix_sound hs hQ l2 listed _ W hok.1 (hw1.trans (hE.mono hw1.size)) (h W x hE ?_)
    rwa [List.filter_eq_self.2 (by simp)] at hA
  | succ k ih =>
    intro l1 U listed L a w x W hk hn hU hL hR hok hw1 hE hA h
    have hfl : ∀ g ∈ U, wpOp P ops Q g (fun a' w' => Ext w1 w' ∧ wpAnyH P md ops Q (Ext w1) (k + l2.length) (listed.setIfInBounds g true) a' w') (puts ds a x) W := by
      intro g hg
      obtain ⟨⟨d, g'⟩, hp, rfl⟩ := List.mem_map.1 (hU g hg)
      refine hF.lays _ hp _ _ _ ?_
      have hEa : Ext W (W.alloc (Oj g')) := (Below.refl _ _).alloc (Nat.le_refl _) _
      have hE2 : Ext w (W.alloc (Oj g')) := hE.trans (hEa.mono hE.size)
      refine ⟨hw1.trans (hE2.mono hw1.size), ?_⟩
      rw [puts_upd ds a x d g' _ hF.nd1 hF.nd2 hF.some_ hp]
      refine ih l1 (U.erase g') _ L a w _ _ (by rw [List.length_erase_of_mem hg]; have := List.length_pos_of_mem hg; omega) (hn.erase _) (fun j hj => hU j (List.mem_of_mem_erase hj)) hL (hR.done hg (hL _ (hU _ hg)) hn) hok hw1 hE2 ?_ h
      have hA2 := hA.ext hEa
      have hold : ∀ j ∈ ds.map (·.2), j ∉ U → ∃ p, x j = .pointer (some ⟨p, 0, none⟩) ∧ p < W.heap.size ∧ (W.alloc (Oj g')).heap[p]? = some (Oj j) ∧ w1.heap.size ≤ p := by
        intro j hj hjU
        obtain ⟨p, h1, h2, h3⟩ := hA.1 j (List.mem_filter.2 ⟨hj, by simpa using hjU⟩)
        obtain ⟨p', h1', h2', h3'⟩ := hA2.1 j (List.mem_filter.2 ⟨hj, by simpa using hjU⟩)
        rw [h1] at h1'
        injection h1' with h1'
        injection h1' with h1'
        injection h1' with h1'
        subst h1'
        exact ⟨p, h1, lt_of_block h2, h2', h3⟩
      have hnew : upd x g' (.pointer (some ⟨W.heap.size, 0, none⟩)) g' = .pointer (some ⟨W.heap.size, 0, none⟩) := by unfold upd; rw [if_pos rfl]
      have hother : ∀ j, j ≠ g' → upd x g' (.pointer (some ⟨W.heap.size, 0, none⟩)) j = x j := fun j hj => by unfold upd; rw [if_neg hj]
      have hmem : ∀ j, j ∈ (ds.map (·.2)).filter (fun g => !(U.erase g').contains g) → j ≠ g' → j ∈ ds.map (·.2) ∧ j ∉ U := by
        intro j hj hne
        rw [List.mem_filter] at hj
        refine ⟨hj.1, fun hc => ?_⟩
        have : j ∈ U.erase g' := by rw [hn.mem_erase_iff]; exact ⟨hne, hc⟩
        simp [this] at hj
      refine ⟨fun j hj => ?_, fun j hj j2 hj2 hne => ?_⟩
      · by_cases hjg : j = g'
        · subst hjg
          exact ⟨W.heap.size, hnew, heap_alloc_new W _, Nat.le_trans hw1.size hE.size⟩
        · obtain ⟨hj1, hjU⟩ := hmem j hj hjg
          obtain ⟨p, h1, h2, h3, h4⟩ := hold j hj1 hjU
          exact ⟨p, (hother j hjg).trans h1, h3, h4⟩
      · by_cases hjg : j = g'
        · subst hjg
          have hj2g : j2 ≠ j := Ne.symm hne
          obtain ⟨q1, q2⟩ := hmem j2 hj2 hj2g
          obtain ⟨p, h1, h2, h3, h4⟩ := hold j2 q1 q2
          rw [hnew, hother j2 hj2g, h1]
          intro hc
          injection hc with hc
          injection hc with hc
          injection hc with hc
          omega
        · by_cases hj2g : j2 = g'
          · subst hj2g
            obtain ⟨q1, q2⟩ := hmem j hj hjg
            obtain ⟨p, h1, h2, h3, h4⟩ := hold j q1 q2
            rw [hnew, hother j hjg, h1]
            intro hc
            injection hc with hc
            injection hc with hc
            injection hc with hc
            omega
          · rw [hother j hjg, hother j2 hj2g]
            obtain ⟨q1, q2⟩ := hmem j hj hjg
            obtain ⟨q3, q4⟩ := hmem j2 hj2 hj2g
            exact hA.2 j (List.mem_filter.2 ⟨q1, by simpa using q2⟩) j2 (List.mem_filter.2 ⟨q3, by simpa using q4⟩) hne
    have hS : Ext w1 W := hw1.trans (hE.mono hw1.size)
    rw [show k + 1 + l2.length = k + l2.length + 1 by omega]
    cases l1 with
    | nil =>
      have hUne : U ≠ [] := fun hc => by rw [hc] at hk; simp at hk
      obtain ⟨g, hg⟩ := List.exists_mem_of_ne_nil U hUne
      obtain ⟨⟨d, g'⟩, hp, hge⟩ := List.mem_map.1 (hU g hg)
      obtain ⟨og, hog, haf⟩ := hF.at_ _ hp
      have hgr : g ∈ Region.ready md ops listed := by
        rw [← hge]
        exact ready_float hR hog haf (by rw [hge]; exact hg)
      rw [fltOk, Bool.and_eq_true] at hok
      refine ⟨fun h0 => (by rw [h0] at hgr; cases hgr), fun j hj => ?_⟩
      by_cases hjU : j ∈ U
      · exact hfl j hjU
      · exfalso
        have hju := ready_up hR hjU hj
        rw [mem_ready] at hju hj
        obtain ⟨h0, o, ho, -⟩ := hju
        obtain ⟨-, o', ho', hall⟩ := hj
        rw [ho] at ho'
        injection ho' with ho'
        subst ho'
        have hjs : j < ops.size := (Array.getElem?_eq_some_iff.1 ho).1
        have h1 := List.all_eq_true.1 hok.2 j (List.mem_range.2 hjs)
        rw [h0, Bool.false_or, List.all_eq_true] at h1
        have h2 := h1 _ hp
        rw [ho] at h2
        obtain ⟨e, he, h3⟩ := Array.any_eq_true'.1 h2
        rw [Bool.and_eq_true, beq_iff_eq] at h3
        have h4 := hall e he h3.1
        rw [h3.2, getD_of, hge, hR.off g hg] at h4
        cases h4
    | cons ib r =>
      obtain ⟨i, b⟩ := ib
      rw [fltOk] at hok
      cases ho : ops[i]? with
      | none => rw [ho] at hok; cases hok
      | some o =>
        rw [ho] at hok
        simp only [Bool.and_eq_true] at hok
        obtain ⟨⟨hind0, hb⟩, hrest⟩ := hok
        have hind : ∀ e ∈ o.after, Region.binds md e = true → e.on ∉ ds.map (·.2) := by
          intro e he hbd
          have := Array.all_eq_true_iff_forall_mem.1 hind0 e he
          rw [hbd] at this
          exact not_in_fun (by simpa using this)
        have hiL : ∀ h : i ∈ Region.ready md ops L, i ∉ U := by
          intro hr hc
          rw [mem_ready] at hr
          rw [getD_of, hL i (hU i hc)] at hr
          cases hr.1
        have hL2 : ∀ j ∈ ds.map (·.2), (L.setIfInBounds i true)[j]? = some true := by
          intro j hj
          rw [Array.getElem?_setIfInBounds]
          split
          · split
            · rfl
            · rename_i h1 h2; subst h1; have := (Array.getElem?_eq_some_iff.1 (hL _ hj)).1; omega
          · exact hL j hj
        cases b with
        | true =>
          simp only [if_true, Bool.and_eq_true] at hb
          obtain ⟨⟨hr, hfree⟩, hfl2⟩ := hb
          have hrL : i ∈ Region.ready md ops L := by simpa using hr
          obtain ⟨o2, v, ho2, hy, hrec⟩ := h
          rw [ho] at ho2
          injection ho2 with ho2
          subst ho2
          have hput : (puts ds a x).put o.dst v = puts ds (a.put o.dst v) x := puts_put ds a x o.dst v (fun p hp t ht hc => by
            have := List.all_eq_true.1 hfl2 p hp
            simp only [Bool.and_eq_true] at this
            rw [ht, hc] at this
            simp at this)
          refine wpAnyH_first ho (Region.noSelect_spec hs) (fun c a w => hQ c a _ _ w) (k + l2.length) listed _ W (fun j oj hj hne hun hno => ?_) (ready_down hR hU ho (hiL hrL) hind hrL) (hy x) hS ?_
          · by_cases hjU : j ∈ U
            · obtain ⟨p, hp, hpe⟩ := List.mem_map.1 (hU j hjU)
              have := List.all_eq_true.1 hfl2 p hp
              simp only [Bool.and_eq_true] at this
              rw [hpe, hj] at this
              exact this.1
            · exact Region.free_spec ho hfree j oj hj hne (by rw [getD_of, ← hR.same j hjU, ← getD_of]; exact hun) hno
          · rw [hput]
            exact ih r U _ (L.setIfInBounds i true) _ w x W (by simp at hk; omega) hn hU hL2 (hR.set (hiL hrL)) hrest hw1 hE hA hrec
        | false =>
          simp only [Bool.false_eq_true, if_false, beq_iff_eq] at hb
          have hrL : i ∈ Region.ready md ops L := by rw [hb]; exact List.mem_singleton.2 rfl
          refine ⟨fun h0 => ?_, fun j hj => ?_⟩
          · have := ready_down hR hU ho (hiL hrL) hind hrL
            rw [h0] at this
            cases this
          · by_cases hjU : j ∈ U
            · exact hfl j hjU
            · have := ready_up hR hjU hj
              rw [hb, List.mem_singleton] at this
              subst this
              refine wpOp_mono (fun a' w' h' => ?_) (h W x hE)
              obtain ⟨h1, h2, h3⟩ := h'
              have hS' : Ext w1 w' := hS.trans (h1.mono hS.size)
              refine ⟨hS', ?_⟩
              rw [← h2]
              exact ih r U _ (L.setIfInBounds j true) a' w' x w' (by simp at hk; omega) hn hU hL2 (hR.set (hiL hrL)) hrest hS' (Below.refl _ _) (hA.ext h1) h3
/-- all floats, and nothing else -/
def up0 (n : Nat) (ds : List (Option Tmp × Nat)) : Array Bool := ((List.range n).map fun j => ds.any fun p => p.2 == j).toArray
theorem wp_region_flt {id : Nat} {a : Act} {w : World} (ds : List (Option Tmp × Nat)) (Oj : Nat → Obj) (l1 l2 : List (Nat × Bool)) (x0 : Nat → Value) (hm : P.follows .mixedOrders = true)
    (hs : Region.noSelect ops = true) (hl : ds.length + l1.length + l2.length = ops.size) (hin : (ds.all fun p => decide (p.2 < ops.size)) = true) (hok : fltOk .any ops ds l2 l1 (up0 ops.size ds) = true)
    (hQ : ∀ c a d v w, Q (.panic c) (Act.put a d v) w → Q (.panic c) a w) (hF : Floats P ops Q ds Oj) (hx : puts ds a x0 = a) (h : wpFlt P ops Q ds Oj w.drew l2 l1 a w.drew) : (Code.region id ops true).wp P Q a w := by
  have hin2 : ∀ j ∈ ds.map (·.2), j < ops.size := by
    intro j hj
    obtain ⟨p, hp, rfl⟩ := List.mem_map.1 hj
    have := List.all_eq_true.1 hin p hp
    simpa using this
  have hup : ∀ j, (up0 ops.size ds)[j]? = if j < ops.size then some (decide (j ∈ ds.map (·.2))) else none := by
    intro j
    unfold up0
    rw [List.getElem?_toArray, List.getElem?_map]
    by_cases hj : j < ops.size
    · rw [List.getElem?_range hj, if_pos hj]
      simp only [Option.map_some]
      congr 1
      rw [Bool.eq_iff_iff, List.any_eq_true, decide_eq_true_iff, List.mem_map]
      simp
    · rw [List.getElem?_eq_none (by simp; omega), if_neg hj]; rfl
  refine wp_region_held (S := Ext w.drew) hm ?_
  have := flt_sound (md := .any) hs hQ hF (ds.length + l1.length) l1 (ds.map (·.2)) (Array.replicate ops.size false) (up0 ops.size ds) a w.drew x0 w.drew (by simp) hF.nd2 (fun j hj => hj)
    (fun j hj => by rw [hup, if_pos (hin2 j hj), decide_eq_true hj]) ⟨by simp [up0], fun j hj => by rw [Array.getElem?_replicate, if_pos (hin2 j hj)], fun j hj => by rw [hup, Array.getElem?_replicate, decide_eq_false hj]⟩ hok (Below.refl _ _) (Below.refl _ _)
    (by rw [List.filter_eq_nil_iff.2 (fun g hg => by simpa using hg)]; exact ⟨fun g hg => (by cases hg), fun g hg => (by cases hg)⟩) h
  rw [hl, hx] at this
  exact this
end
section
variable {P : Program} {l : List Oper} {Q : Exit → Act → World → Prop} {ds : List (Option Tmp × Nat)} {Oj : Nat → Obj} {w1 : World} {l2 r : List (Nat × Bool)} {i : Nat} {o : Oper} {a : Act} {w : World} {v : Value}
theorem flt_q (ho : lget l i = some o) (hg : o.guard = none)
    (h1 : ∀ x W, Ext w1 W → (execOp (puts ds a x).eval o).run P W = .ok (.value v) W) (h2 : wpFlt P l.toArray Q ds Oj w1 l2 r (a.put o.dst v) w) : wpFlt P l.toArray Q ds Oj w1 l2 ((i, true) :: r) a w :=
  ⟨o, v, (lget_eq l i).trans ho, fun x => .inl ⟨by simp [Region.wanted, hg], h1 x⟩, h2⟩
theorem flt_w (ho : lget l i = some o) (hg : o.guard = none)
    (h : ∀ W x, Ext w W → ∀ K : Act → World → Prop, (∀ a' w', Ext W w' → puts ds a' x = a' → wpFlt P l.toArray Q ds Oj w1 l2 r a' w' → K a' w') → o.wp P (puts ds a x) W K Q) : wpFlt P l.toArray Q ds Oj w1 l2 ((i, false) :: r) a w := by
  intro W x hE
  show wpOp P l.toArray Q i _ _ W
  unfold wpOp
  rw [(lget_eq l i).trans ho]
  simp only
  rw [if_pos (by simp [Region.wanted, hg])]
  exact .inl (h W x hE _ fun a' w' h1 h2 h3 => ⟨h1, h2, h3⟩)
theorem flt_end (h : ∀ W x, Ext w W → FAll w1.heap.size Oj x W (ds.map (·.2)) → wpMix P l.toArray Q (Ext w1) l2 (puts ds a x) W) : wpFlt P l.toArray Q ds Oj w1 l2 [] a w := h
theorem flt_lay {K : Act → World → Prop} (ho : lget l i = some o) (hg : o.guard = none) (h : o.wp P a w K Q) : wpOp P l.toArray Q i K a w := by
  unfold wpOp
  rw [(lget_eq l i).trans ho]
  simp only
  rw [if_pos (by simp [Region.wanted, hg])]
  exact .inl h
def atOk (ops : Array Oper) (ds : List (Option Tmp × Nat)) : Bool := ds.all fun p => match ops[p.2]? with
  | some o => o.after.isEmpty
  | none => false
theorem floats_of {ops : Array Oper} (h : atOk ops ds = true) (hl : ∀ p ∈ ds, ∀ (K : Act → World → Prop) a w, K (a.put p.1 (.pointer (some ⟨w.heap.size, 0, none⟩))) (w.alloc (Oj p.2)) → wpOp P ops Q p.2 K a w)
    (h1 : (ds.map (·.1)).Nodup) (h2 : (ds.map (·.2)).Nodup) (h3 : ∀ p ∈ ds, p.1 ≠ none) : Floats P ops Q ds Oj := by
  refine ⟨fun p hp => ?_, hl, h1, h2, h3⟩
  have := List.all_eq_true.1 h p hp
  split at this
  · rename_i o ho
    exact ⟨o, ho, by simpa using this⟩
  · cases this
end
end Go.Proofs.Ytoihankkldafoaa
