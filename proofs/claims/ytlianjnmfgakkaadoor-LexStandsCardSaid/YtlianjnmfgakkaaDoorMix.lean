/- A region that draws its order, walked once: the operations that yield the same value in every world of a class S are taken as soon as they may come up; the others, which form a chain, each when nothing else may. -/
import Derived.Test.YtlianjnmfgakkaaDoorBase
import Derived.OrdersHeld
namespace Go.Proofs.YtlianjnmfgakkaaDoor
open Go.RowKit

section
variable {P : Program} {ops : Array Oper} {Q : Exit → Act → World → Prop} {md : Region.Mode} {S : World → Prop}

/-- may the operations come up in this order? (true: it is taken first; false: it alone may come up) -/
def mixOk (md : Region.Mode) (ops : Array Oper) : List (Nat × Bool) → Array Bool → Bool
  | [], listed => (Region.ready md ops listed).isEmpty
  | (i, true) :: r, listed => (Region.ready md ops listed).contains i && (Region.free md ops listed i && mixOk md ops r (listed.setIfInBounds i true))
  | (i, false) :: r, listed => (Region.ready md ops listed == [i]) && mixOk md ops r (listed.setIfInBounds i true)

def wpMix (P : Program) (ops : Array Oper) (Q : Exit → Act → World → Prop) (S : World → Prop) : List (Nat × Bool) → Act → World → Prop
  | [], a, w => Q .normal a w
  | (i, true) :: r, a, w => ∃ o v, ops[i]? = some o ∧ YieldsIf P ops S o v a ∧ wpMix P ops Q S r (a.put o.dst v) w
  | (i, false) :: r, a, w => wpOp P ops Q i (fun a' w' => S w' ∧ wpMix P ops Q S r a' w') a w

theorem mix_sound (hs : Region.noSelect ops = true) (hQ : ∀ c a d v w, Q (.panic c) (Act.put a d v) w → Q (.panic c) a w) :
    ∀ (l : List (Nat × Bool)) (listed : Array Bool) (a : Act) (w : World), mixOk md ops l listed = true → S w → wpMix P ops Q S l a w → wpAnyH P md ops Q S l.length listed a w
  | [], listed, a, w, hok, hS, h => ⟨by simpa [mixOk] using hok, h⟩
  | (i, true) :: r, listed, a, w, hok, hS, h => by
    simp only [mixOk, Bool.and_eq_true] at hok
    obtain ⟨o, v, ho, hy, hr⟩ := h
    exact wpAnyH_first ho (Region.noSelect_spec hs) (fun c a w => hQ c a _ _ w) r.length listed a w (Region.free_spec ho hok.2.1) (by simpa using hok.1) hy hS (mix_sound hs hQ r _ _ _ hok.2.2 hS hr)
  | (i, false) :: r, listed, a, w, hok, hS, h => by
    simp only [mixOk, Bool.and_eq_true, beq_iff_eq] at hok
    refine ⟨fun h0 => (by rw [hok.1] at h0; cases h0), fun j hj => ?_⟩
    rw [hok.1] at hj
    obtain rfl : j = i := by simpa using hj
    exact wpOp_mono (fun a' w' ⟨h1, h2⟩ => ⟨h1, mix_sound hs hQ r _ _ _ hok.2 h1 h2⟩) h

theorem wp_region_mix {id : Nat} {a : Act} {w : World} (S : World → Prop) (l : List (Nat × Bool)) (hm : P.follows .mixedOrders = true)
    (hs : Region.noSelect ops = true) (hl : l.length = ops.size) (hok : mixOk .any ops l (Array.replicate ops.size false) = true)
    (hQ : ∀ c a d v w, Q (.panic c) (Act.put a d v) w → Q (.panic c) a w) (hS : S w.drew) (h : wpMix P ops Q S l a w.drew) : (Code.region id ops true).wp P Q a w := by
  refine wp_region_held (S := S) hm ?_
  have := mix_sound (md := .any) hs hQ l (Array.replicate ops.size false) a w.drew hok hS h
  rw [hl] at this
  exact this

/-- a region that only reads: the one world -/
theorem wp_region_reads {id : Nat} {a : Act} {w : World} (l : List (Nat × Bool)) (hm : P.follows .mixedOrders = true)
    (hs : Region.noSelect ops = true) (hl : l.length = ops.size) (hok : mixOk .any ops l (Array.replicate ops.size false) = true)
    (hQ : ∀ c a d v w, Q (.panic c) (Act.put a d v) w → Q (.panic c) a w) (h : wpMix P ops Q (fun W => W = w.drew) l a w.drew) : (Code.region id ops true).wp P Q a w :=
  wp_region_mix (fun W => W = w.drew) l hm hs hl hok hQ rfl h
theorem mix_nil {a : Act} {w : World} (h : Q .normal a w) : wpMix P ops Q S [] a w := h
/-- the operation at a place, structurally -/
def lget : List Oper → Nat → Option Oper
  | [], _ => none
  | x :: _, 0 => some x
  | _ :: l, n + 1 => lget l n
theorem lget_eq : ∀ (l : List Oper) (i : Nat), l.toArray[i]? = lget l i
  | [], _ => by simp [lget]
  | x :: l, 0 => by simp [lget]
  | x :: l, n + 1 => by simpa [lget] using lget_eq l n
end
section
variable {P : Program} {l : List Oper} {Q : Exit → Act → World → Prop} {S : World → Prop} {i : Nat} {o : Oper} {r : List (Nat × Bool)} {a : Act} {w : World} {v : Value}
theorem mix_q (ho : lget l i = some o) (hg : o.guard = none)
    (h1 : ∀ W, S W → (execOp a.eval o).run P W = .ok (.value v) W) (h2 : wpMix P l.toArray Q S r (a.put o.dst v) w) : wpMix P l.toArray Q S ((i, true) :: r) a w :=
  ⟨o, v, (lget_eq l i).trans ho, .inl ⟨by simp [Region.wanted, hg], h1⟩, h2⟩
theorem mix_on (ho : lget l i = some o) (hg : Region.wanted o (yielded l.toArray a.tmps) = true)
    (h1 : ∀ W, S W → (execOp a.eval o).run P W = .ok (.value v) W) (h2 : wpMix P l.toArray Q S r (a.put o.dst v) w) : wpMix P l.toArray Q S ((i, true) :: r) a w :=
  ⟨o, v, (lget_eq l i).trans ho, .inl ⟨hg, h1⟩, h2⟩
theorem mix_off (ho : lget l i = some o) (hg : Region.wanted o (yielded l.toArray a.tmps) = false)
    (h2 : wpMix P l.toArray Q S r (a.put o.dst undef) w) : wpMix P l.toArray Q S ((i, true) :: r) a w :=
  ⟨o, undef, (lget_eq l i).trans ho, .inr ⟨hg, rfl⟩, h2⟩
theorem mix_won (ho : lget l i = some o) (hg : Region.wanted o (yielded l.toArray a.tmps) = true)
    (h : ∀ K : Act → World → Prop, (∀ a w, S w → wpMix P l.toArray Q S r a w → K a w) → o.wp P a w K Q) : wpMix P l.toArray Q S ((i, false) :: r) a w := by
  show wpOp P l.toArray Q i _ a w
  unfold wpOp
  rw [(lget_eq l i).trans ho]
  simp only
  rw [if_pos hg]
  exact .inl (h _ fun a w h1 h2 => ⟨h1, h2⟩)
theorem mix_w (ho : lget l i = some o) (hg : o.guard = none)
    (h : ∀ K : Act → World → Prop, (∀ a w, S w → wpMix P l.toArray Q S r a w → K a w) → o.wp P a w K Q) : wpMix P l.toArray Q S ((i, false) :: r) a w :=
  mix_won ho (by simp [Region.wanted, hg]) h
theorem mix_woff (ho : lget l i = some o) (hg : Region.wanted o (yielded l.toArray a.tmps) = false)
    (hS : S w) (h : wpMix P l.toArray Q S r (a.put o.dst undef) w) : wpMix P l.toArray Q S ((i, false) :: r) a w := by
  show wpOp P l.toArray Q i _ a w
  unfold wpOp
  rw [(lget_eq l i).trans ho]
  simp only
  rw [if_neg (by rw [hg]; decide)]
  exact ⟨hS, h⟩
end
end Go.Proofs.YtlianjnmfgakkaaDoor
