/- Regions that draw their order and in which two operations of the world may come up at once: both ways walked. -/
import Derived.Test.YtpfmbehhppbcnaaDoorMix
namespace Go.Proofs.YtpfmbehhppbcnaaDoor
open Go.RowKit

inductive MixT where
  | nil : MixT
  | q : Nat → MixT → MixT
  | w : Nat → MixT → MixT
  | f : Nat → MixT → Nat → MixT → MixT
def MixT.len : MixT → Nat
  | .nil => 0
  | .q _ r => r.len + 1
  | .w _ r => r.len + 1
  | .f _ r _ _ => r.len + 1

section
variable {P : Program} {ops : Array Oper} {Q : Exit → Act → World → Prop} {md : Region.Mode} {S : World → Prop}
def mixTOk (md : Region.Mode) (ops : Array Oper) : MixT → Array Bool → Bool
  | .nil, listed => (Region.ready md ops listed).isEmpty
  | .q i r, listed => (Region.ready md ops listed).contains i && (Region.free md ops listed i && mixTOk md ops r (listed.setIfInBounds i true))
  | .w i r, listed => (Region.ready md ops listed == [i]) && mixTOk md ops r (listed.setIfInBounds i true)
  | .f i r j s, listed => (Region.ready md ops listed == [i, j]) && ((r.len == s.len) && (mixTOk md ops r (listed.setIfInBounds i true) && mixTOk md ops s (listed.setIfInBounds j true)))
def wpMixT (P : Program) (ops : Array Oper) (Q : Exit → Act → World → Prop) (S : World → Prop) : MixT → Act → World → Prop
  | .nil, a, w => Q .normal a w
  | .q i r, a, w => ∃ o v, ops[i]? = some o ∧ YieldsIf P ops S o v a ∧ wpMixT P ops Q S r (a.put o.dst v) w
  | .w i r, a, w => wpOp P ops Q i (fun a' w' => S w' ∧ wpMixT P ops Q S r a' w') a w
  | .f i r j s, a, w => wpOp P ops Q i (fun a' w' => S w' ∧ wpMixT P ops Q S r a' w') a w ∧ wpOp P ops Q j (fun a' w' => S w' ∧ wpMixT P ops Q S s a' w') a w
theorem mixT_sound (hs : Region.noSelect ops = true) (hQ : ∀ c a d v w, Q (.panic c) (Act.put a d v) w → Q (.panic c) a w) :
    ∀ (l : MixT) (listed : Array Bool) (a : Act) (w : World), mixTOk md ops l listed = true → S w → wpMixT P ops Q S l a w → wpAnyH P md ops Q S l.len listed a w
  | .nil, listed, a, w, hok, hS, h => ⟨by simpa [mixTOk] using hok, h⟩
  | .q i r, listed, a, w, hok, hS, h => by
    simp only [mixTOk, Bool.and_eq_true] at hok
    obtain ⟨o, v, ho, hy, hr⟩ := h
    exact wpAnyH_first ho (Region.noSelect_spec hs) (fun c a w => hQ c a _ _ w) r.len listed a w (Region.free_spec ho hok.2.1) (by simpa using hok.1) hy hS (mixT_sound hs hQ r _ _ _ hok.2.2 hS hr)
  | .w i r, listed, a, w, hok, hS, h => by
    simp only [mixTOk, Bool.and_eq_true, beq_iff_eq] at hok
    refine ⟨fun h0 => (by rw [hok.1] at h0; cases h0), fun j hj => ?_⟩
    rw [hok.1] at hj
    obtain rfl : j = i := by simpa using hj
    exact wpOp_mono (fun a' w' ⟨h1, h2⟩ => ⟨h1, mixT_sound hs hQ r _ _ _ hok.2 h1 h2⟩) h
  | .f i r k s, listed, a, w, hok, hS, h => by
    simp only [mixTOk, Bool.and_eq_true, beq_iff_eq] at hok
    obtain ⟨h0, hl, h1, h2⟩ := hok
    refine ⟨fun he => (by rw [h0] at he; cases he), fun j hj => ?_⟩
    rw [h0] at hj
    have : j = i ∨ j = k := by simpa using hj
    rcases this with rfl | rfl
    · exact wpOp_mono (fun a' w' ⟨g1, g2⟩ => ⟨g1, mixT_sound hs hQ r _ _ _ h1 g1 g2⟩) h.1
    · exact wpOp_mono (fun a' w' ⟨g1, g2⟩ => ⟨g1, by rw [hl]; exact mixT_sound hs hQ s _ _ _ h2 g1 g2⟩) h.2
theorem wp_region_tree {id : Nat} {a : Act} {w : World} (S : World → Prop) (l : MixT) (hm : P.follows .mixedOrders = true)
    (hs : Region.noSelect ops = true) (hl : l.len = ops.size) (hok : mixTOk .any ops l (Array.replicate ops.size false) = true)
    (hQ : ∀ c a d v w, Q (.panic c) (Act.put a d v) w → Q (.panic c) a w) (hS : S w.drew) (h : wpMixT P ops Q S l a w.drew) : (Code.region id ops true).wp P Q a w := by
  refine wp_region_held (S := S) hm ?_
  have := mixT_sound (md := .any) hs hQ l (Array.replicate ops.size false) a w.drew hok hS h
  rw [hl] at this
  exact this
end
section
variable {P : Program} {l : List Oper} {Q : Exit → Act → World → Prop} {S : World → Prop} {i j : Nat} {o o' : Oper} {r s : MixT} {a : Act} {w : World} {v : Value}
theorem tree_nil (h : Q .normal a w) : wpMixT P l.toArray Q S .nil a w := h
theorem tree_q (ho : lget l i = some o) (hg : o.guard = none) (h1 : ∀ W, S W → (execOp a.eval o).run P W = .ok (.value v) W) (h2 : wpMixT P l.toArray Q S r (a.put o.dst v) w) : wpMixT P l.toArray Q S (.q i r) a w :=
  ⟨o, v, (lget_eq l i).trans ho, .inl ⟨by simp [Region.wanted, hg], h1⟩, h2⟩
theorem tree_op (ho : lget l i = some o) (hg : o.guard = none) (h : ∀ K : Act → World → Prop, (∀ a w, S w → wpMixT P l.toArray Q S r a w → K a w) → o.wp P a w K Q) :
    wpOp P l.toArray Q i (fun a' w' => S w' ∧ wpMixT P l.toArray Q S r a' w') a w := by
  unfold wpOp
  rw [(lget_eq l i).trans ho]
  simp only
  rw [if_pos (by simp [Region.wanted, hg])]
  exact .inl (h _ fun a w h1 h2 => ⟨h1, h2⟩)
theorem tree_w (ho : lget l i = some o) (hg : o.guard = none) (h : ∀ K : Act → World → Prop, (∀ a w, S w → wpMixT P l.toArray Q S r a w → K a w) → o.wp P a w K Q) : wpMixT P l.toArray Q S (.w i r) a w :=
  tree_op ho hg h
theorem tree_f (h1 : wpOp P l.toArray Q i (fun a' w' => S w' ∧ wpMixT P l.toArray Q S r a' w') a w) (h2 : wpOp P l.toArray Q j (fun a' w' => S w' ∧ wpMixT P l.toArray Q S s a' w') a w) : wpMixT P l.toArray Q S (.f i r j s) a w := ⟨h1, h2⟩
end
end Go.Proofs.YtpfmbehhppbcnaaDoor
