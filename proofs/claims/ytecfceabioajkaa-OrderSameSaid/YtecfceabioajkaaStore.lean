/- A cell of an own row, stored to. -/
import Derived.Test.YtecfceabioajkaaOwn
import Derived.Laws.OwnMore
namespace Go.Proofs.Ytecfceabioajkaa
open Go.RowKit

theorem El.row_set {α : Type} (E : El α) {x y : α} {j : Nat} {u : Value} (hy : E.cs y = (E.cs x).set j u) (hj : j < E.sz) : ∀ (xs : List α) (k : Nat), xs[k]? = some x → E.row (xs.set k y) = (E.row xs).set (k * E.sz + j) u
  | [], _, h => by simp at h
  | z :: xs, 0, h => by
    obtain rfl : z = x := by simpa using h
    rw [List.set_cons_zero, E.row_cons, E.row_cons, hy, Nat.zero_mul, Nat.zero_add, List.set_append_left _ _ (by rw [E.len]; exact hj)]
  | z :: xs, k + 1, h => by
    have ih := E.row_set hy hj xs k (by simpa using h)
    rw [List.set_cons_succ, E.row_cons, E.row_cons, ih, List.set_append_right _ _ (by rw [E.len, Nat.succ_mul]; omega), E.len]
    congr 2
    rw [Nat.succ_mul]
    omega
section
variable {α : Type} {E : El α} {e : TypeId} {base : Nat} {w : World} {xs : List α} {A : Option Addr} {n c : Nat}
theorem Own.place (h : Own E e base w (.slice A n c) xs) (hx : 0 < n) : ∃ g, A = some ⟨g, 0, none⟩ ∧ base ≤ g := by
  rcases h.2 with ⟨h1, h2⟩ | ⟨g, cap, cur, h1, hb, _⟩
  · injection h1 with h3 h4 h5
    omega
  · injection h1 with h3 h4 h5
    exact ⟨g, h3, hb⟩
theorem Own.put {g : Nat} (h : Own E e base w (.slice (some ⟨g, 0, none⟩) n c) xs) {k j : Nat} {x y : α} {u : Value} (hx : xs[k]? = some x) (hy : E.cs y = (E.cs x).set j u) (hj : j < E.sz) :
    Own E e base (w.setCell ⟨g, k * E.sz + j, none⟩ u) (.slice (some ⟨g, 0, none⟩) n c) (xs.set k y) := by
  have hn : n = xs.length := by
    obtain ⟨A', c', hv, -⟩ := h.rd
    injection hv
  subst hn
  have := (World.ownsRow.stored h (k * E.sz + j) u).1
  unfold Own
  rw [List.length_set, E.row_set hy hj xs k hx]
  exact this
theorem Own.rdAt {g : Nat} (h : Own E e base w (.slice (some ⟨g, 0, none⟩) n c) xs) (hx : 0 < xs.length) : RdAt E w.heap.size w g 0 xs := by
  obtain ⟨A', c', hv, hr, -⟩ := h.rd
  injection hv with h1 _ _
  rcases hr with rfl | ⟨b, off, hb, hr⟩
  · simp at hx
  · rw [← h1] at hb
    injection hb with hb
    injection hb with hb1 hb2 _
    rw [hb1, hb2]
    exact hr
theorem Own.free {g : Nat} (h : Own E e base w (.slice (some ⟨g, 0, none⟩) n c) xs) (j : Nat) : w.frozen? ⟨g, j, none⟩ = false := by
  have hn : n = xs.length := by
    obtain ⟨A', c', hv, -⟩ := h.rd
    injection hv
  subst hn
  exact World.ownsRow.frozenAt h j
theorem Own.pair {g : Nat} {ps : List (Int × Int)} (h : Own pairE e base w (.slice (some ⟨g, 0, none⟩) n c) ps) {k : Nat} {p q : Int} (hx : ps[k]? = some (p, q)) :
    g < w.heap.size ∧ w.cell? ⟨g, k * 2, none⟩ = some (.int .i64 p) ∧ w.cell? ⟨g, k * 2 + 1, none⟩ = some (.int .i64 q) := by
  have hr := h.rdAt (Nat.lt_of_le_of_lt (Nat.zero_le _) (List.getElem?_eq_some_iff.1 hx).1)
  have := hr.pair hx
  rw [Nat.zero_add] at this
  exact ⟨hr.1, this⟩
end
end Go.Proofs.Ytecfceabioajkaa
