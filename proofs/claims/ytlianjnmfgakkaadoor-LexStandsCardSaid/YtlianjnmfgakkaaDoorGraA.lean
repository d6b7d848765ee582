/- Edges: as elements; their order; graph.compare, graph.edge; the document's Ahead, RightEdge. -/
import Derived.Test.YtlianjnmfgakkaaDoorRows
import Derived.Test.YtlianjnmfgakkaaDoorOwn
import Derived.Test.YtlianjnmfgakkaaDoorOrd
import Derived.Test.YtlianjnmfgakkaaDoorMixE
import Derived.Deep.DeepCutAuto
import Derived.Deep.CutBlock
import Derived.Shelf.Abstract
namespace Go.Proofs.YtlianjnmfgakkaaDoor
open Go.RowKit

abbrev Edge := Int × Int × Int
def edgeE : El (Int × Int × Int) := ⟨fun x => [.int .i64 x.1, .int .i64 x.2.1, .int .i64 x.2.2], 3, fun _ => rfl, by decide, fun x u hu => by simp at hu; rcases hu with rfl | rfl | rfl <;> rfl⟩
section
variable {B : Nat} {w : World} {b off : Nat}
theorem RdAt.edge {xs : List (Int × Int × Int)} (h : RdAt edgeE B w b off xs) {i : Nat} {p q r : Int} (hx : xs[i]? = some (p, q, r)) :
    w.cell? ⟨b, off + i * 3, none⟩ = some (.int .i64 p) ∧ w.cell? ⟨b, off + i * 3 + 1, none⟩ = some (.int .i64 q) ∧ w.cell? ⟨b, off + i * 3 + 2, none⟩ = some (.int .i64 r) :=
  ⟨h.2 i _ hx 0 _ rfl, h.2 i _ hx 1 _ rfl, h.2 i _ hx 2 _ rfl⟩
theorem RdAt.edge0 {xs : List (Int × Int × Int)} (h : RdAt edgeE B w b off xs) {p q r : Int} (hx : xs[0]? = some (p, q, r)) :
    w.cell? ⟨b, off, none⟩ = some (.int .i64 p) ∧ w.cell? ⟨b, off + 1, none⟩ = some (.int .i64 q) ∧ w.cell? ⟨b, off + 2, none⟩ = some (.int .i64 r) := by
  have := h.edge hx
  simpa using this
end
/-! ### A variable of some cells in a block of its own -/
def BoxN (w : World) (b : Nat) (t : TypeId) (cs : Array Value) : Prop := w.heap[b]? = some (.cells cs t (0, 0))
section
variable {w w' : World} {b : Nat} {t : TypeId} {cs : Array Value}
theorem BoxN.new (w : World) (t : TypeId) (cs : Array Value) : BoxN (w.alloc (.cells cs t)) w.heap.size t cs := heap_alloc_new w _
theorem BoxN.lt (h : BoxN w b t cs) : b < w.heap.size := by
  rcases Nat.lt_or_ge b w.heap.size with hlt | hge
  · exact hlt
  · unfold BoxN at h; rw [Array.getElem?_eq_none hge] at h; cases h
theorem BoxN.cell (h : BoxN w b t cs) (i : Nat) {v : Value} (hv : cs[i]? = some v) : w.cell? ⟨b, i, none⟩ = some v := by
  unfold World.cell?
  unfold BoxN at h
  simp only [h]
  exact hv
theorem BoxN.free (h : BoxN w b t cs) (i : Nat) : w.frozen? ⟨b, i, none⟩ = false := by
  unfold World.frozen?
  unfold BoxN at h
  simp only [h]
  simp
theorem BoxN.ext (h : BoxN w b t cs) (hb : Ext w w') : BoxN w' b t cs := (hb.block b h.lt).trans h
theorem BoxN.alloc (h : BoxN w b t cs) (o : Obj) : BoxN (w.alloc o) b t cs := (Below.heap_alloc w o b h.lt).trans h
theorem BoxN.drew (h : BoxN w b t cs) : BoxN w.drew b t cs := h
theorem BoxN.set (h : BoxN w b t cs) (i : Nat) (u : Value) : BoxN (w.setCell ⟨b, i, none⟩ u) b t (cs.setIfInBounds i u) := by
  show (w.heap.modify b _)[b]? = _
  unfold BoxN at h
  rw [Array.getElem?_modify, if_pos rfl, h]
  rfl
theorem BoxN.far (h : BoxN w b t cs) {p : Addr} (hp : b ≠ p.block) (u : Value) : BoxN (w.setCell p u) b t cs := (Below.heap_setCell w p u b hp).trans h
theorem BoxN.grown (h : BoxN w b t cs) {row : Option Nat} (hg : w.grownBy w' row) (hr : some b ≠ row) : BoxN w' b t cs := (hg.block b h.lt hr).trans h
variable {α : Type} {E : El α} {e : TypeId} {base : Nat} {xs : List α} {s : Value}
theorem Own.ne_boxN (h : Own E e base w s xs) (h' : BoxN w b t cs) (hne : e ≠ t) : s.ownBlock ≠ some b := by
  intro hs
  obtain ⟨c, hc⟩ := h.block b hs
  unfold BoxN at h'
  rw [hc] at h'
  injection h' with h'
  injection h' with _ ht
  exact hne ht
theorem BoxN.app (h : BoxN w b t cs) (ho : Own E e base w s xs) (hg : w.grownBy w' s.ownBlock) (hne : e ≠ t) : BoxN w' b t cs := h.grown hg (Ne.symm (ho.ne_boxN h hne))
theorem Own.setN (h : Own E e base w s xs) (h' : BoxN w b t cs) (hne : e ≠ t) (i : Nat) (u : Value) : Own E e base (w.setCell ⟨b, i, none⟩ u) s xs := by
  refine h.kept (row := some b) ⟨rfl, rfl, rfl, by simp [World.setCell], fun k _ hk => Below.heap_setCell _ _ _ k (fun e => hk (by rw [e]))⟩ (.inr (h.ne_boxN h' hne))
end

theorem tyInt : Ty Tryd.prog intE 26 3 8 := ty_of (z := .int .i64 0) (sz := 1) (by kernel_rfl) (by kernel_rfl) rfl rfl (by decide)

/-! ### Their order -/
def cmpI (a b : Int) : Int := if a < b then -1 else if b < a then 1 else 0
def ltE (x y : Int × Int × Int) : Bool := if x.1 = y.1 then (if x.2.1 = y.2.1 then decide (x.2.2 < y.2.2) else decide (x.2.1 < y.2.1)) else decide (x.1 < y.1)
def cmpE (x y : Int × Int × Int) : Int := if cmpI x.1 y.1 ≠ 0 then cmpI x.1 y.1 else if cmpI x.2.1 y.2.1 ≠ 0 then cmpI x.2.1 y.2.1 else cmpI x.2.2 y.2.2
theorem cmpE_lt (x y : Int × Int × Int) : decide (cmpE x y < 0) = ltE x y := by
  obtain ⟨a, b, c⟩ := x
  obtain ⟨p, q, r⟩ := y
  unfold cmpE ltE cmpI
  simp only
  by_cases h1 : a = p
  · by_cases h2 : b = q
    · subst h1 h2
      simp only [Int.lt_irrefl, if_false, ne_eq, not_true_eq_false, if_true]
      (repeat' split) <;> simp <;> omega
    · subst h1
      simp only [Int.lt_irrefl, if_false, ne_eq, not_true_eq_false, if_true, if_neg h2]
      (repeat' split) <;> simp <;> omega
  · simp only [if_neg h1]
    (repeat' split) <;> simp <;> omega
theorem ltE_iff (x y : Int × Int × Int) : ltE x y = true ↔ x.1 < y.1 ∨ x.1 = y.1 ∧ (x.2.1 < y.2.1 ∨ x.2.1 = y.2.1 ∧ x.2.2 < y.2.2) := by
  unfold ltE
  (repeat' split) <;> simp <;> omega
theorem swo_E : SWO ltE := by
  have hf : ∀ x y, ltE x y = false ↔ ¬ (x.1 < y.1 ∨ x.1 = y.1 ∧ (x.2.1 < y.2.1 ∨ x.2.1 = y.2.1 ∧ x.2.2 < y.2.2)) := fun x y => by rw [← ltE_iff]; simp
  refine ⟨fun a => ?_, fun a b c h1 h2 => ?_, fun a b c h1 h2 => ?_⟩
  · rw [hf]; omega
  · rw [ltE_iff] at *; omega
  · rw [hf] at *; omega
theorem totE (x y : Int × Int × Int) (h1 : ltE x y = false) (h2 : ltE y x = false) : x = y := by
  have hf : ∀ x y, ltE x y = false ↔ ¬ (x.1 < y.1 ∨ x.1 = y.1 ∧ (x.2.1 < y.2.1 ∨ x.2.1 = y.2.1 ∧ x.2.2 < y.2.2)) := fun x y => by rw [← ltE_iff]; simp
  rw [hf] at *
  obtain ⟨a, b, c⟩ := x
  obtain ⟨p, q, r⟩ := y
  simp only at h1 h2
  have e1 : a = p := by omega
  have e2 : b = q := by omega
  have e3 : c = r := by omega
  rw [e1, e2, e3]
def neE (x y : Int × Int × Int) : Bool := !(x == y)
theorem neE_cong : ∀ x y z : Int × Int × Int, neE x y = false → neE x z = neE y z := by intro x y z h; simp [neE] at h; rw [h]
theorem neE_iff (x y : Int × Int × Int) : neE x y = false ↔ x = y := by simp [neE]
theorem eqE_val (a b c p q r : Int) : ((a, b, c) == (p, q, r)) = (a == p && (b == q && c == r)) := rfl
/-! ### Walks -/
def orI (a b c : Int) : Int := if a ≠ 0 then a else if b ≠ 0 then b else c
end Go.Proofs.YtlianjnmfgakkaaDoor
