/- slices.Repeat of one element: what each copy does to the row. -/
import Derived.Test.YtbmcbbcgambflaaDoorLevH
import Derived.Lib.SlBuf
namespace Go.Proofs.YtbmcbbcgambflaaDoor
open Go.RowKit

/-- a row of k places, the first m of them set -/
def blkL (k m : Nat) (l : Int) : List Value := List.replicate m (.int .i64 l) ++ List.replicate (k - m) (.int .i64 0)
theorem blkL_length {k m : Nat} (l : Int) (h : m ≤ k) : (blkL k m l).length = k := by unfold blkL; simp; omega
theorem rep_copy (w : World) (g k m q : Nat) (l : Int) (ty : TypeId) (c1 c2 : Nat) (hg : w.heap[g]? = some (.cells (blkL k m l).toArray 3 (0, 0))) (hm : m ≤ k) (hq : q = min m (k - m)) :
    (Builtin.copy_ #[22, 22] ty #[.slice (some ⟨g, m, none⟩) (k - m) c1, .slice (some ⟨g, 0, none⟩) m c2]).run Tryd.prog w = .ok (goInt q) (w.setRow g (blkL k (m + q) l).toArray) := by
  have hr := run_copy_row (P := Tryd.prog) w 22 22 ty 3 g m (k - m) c1 ⟨g, 0, none⟩ m c2 (blkL k m l).toArray 3 (List.replicate q (.int .i64 l)) (by kernel_rfl) (by kernel_rfl) hg
    (by rw [List.length_replicate, hq]) (fun j v hv => by
      have hj : j < q := by
        rcases Nat.lt_or_ge j q with h | h
        · exact h
        · rw [List.getElem?_eq_none (by simpa using h)] at hv
          cases hv
      rw [List.getElem?_replicate, if_pos hj] at hv
      injection hv with hv
      subst hv
      have ha : (⟨g, 0, none⟩ : Addr).add j = ⟨g, j, none⟩ := by unfold Addr.add; split <;> simp_all
      rw [ha]
      unfold World.cell?
      rw [hg]
      have hjm : j < m := by omega
      simp [blkL, List.getElem?_append, hjm]) (by simp [blkL_length l hm]; omega) (by intro v hv; rw [List.eq_of_mem_replicate hv]; rfl)
  rw [hr]
  simp only [List.length_replicate]
  congr 3
  unfold blkL
  have h1 : (List.replicate m (Value.int .i64 l)).length = m := List.length_replicate
  rw [List.take_append_of_le_length (by omega), List.take_of_length_le (by omega), List.drop_append, List.drop_of_length_le (by omega), List.nil_append, h1, List.drop_replicate, List.replicate_append_replicate]
  congr 2
  omega
theorem rep_first (w : World) (g k : Nat) (l : Int) (ty : TypeId) (b off c1 c2 : Nat) (hg : w.heap[g]? = some (.cells (blkL k 0 l).toArray 3 (0, 0))) (hx : w.cell? ⟨b, off, none⟩ = some (.int .i64 l)) :
    (Builtin.copy_ #[22, 22] ty #[.slice (some ⟨g, 0, none⟩) k c1, .slice (some ⟨b, off, none⟩) 1 c2]).run Tryd.prog w = .ok (goInt (min 1 k : Nat)) (w.setRow g (blkL k (min 1 k) l).toArray) := by
  have hr := run_copy_row (P := Tryd.prog) w 22 22 ty 3 g 0 k c1 ⟨b, off, none⟩ 1 c2 (blkL k 0 l).toArray 3 (List.replicate (min 1 k) (.int .i64 l)) (by kernel_rfl) (by kernel_rfl) hg
    (by rw [List.length_replicate]) (fun j v hv => by
      have hj : j < min 1 k := by
        rcases Nat.lt_or_ge j (min 1 k) with h | h
        · exact h
        · rw [List.getElem?_eq_none (by simpa using h)] at hv
          cases hv
      rw [List.getElem?_replicate, if_pos hj] at hv
      injection hv with hv
      subst hv
      obtain rfl : j = 0 := by omega
      have ha : (⟨b, off, none⟩ : Addr).add 0 = ⟨b, off, none⟩ := by unfold Addr.add; split <;> simp_all
      rw [ha]
      exact hx) (by simp [blkL_length l (Nat.zero_le k)]; omega) (by intro v hv; rw [List.eq_of_mem_replicate hv]; rfl)
  rw [hr]
  simp only [List.length_replicate]
  congr 3
  unfold blkL
  simp
theorem blk_of_own {base : Nat} {w : World} {g k : Nat} (l : Int) (h : Own intE 3 base w (.slice (some ⟨g, 0, none⟩) k k) (List.replicate k (0 : Int))) : w.heap[g]? = some (.cells (blkL k 0 l).toArray 3 (0, 0)) := by
  rcases h.2 with ⟨h1, -⟩ | ⟨g', cap, cur, h1, hb, hg, hnc, hcm, hsz, hcur⟩
  · injection h1 with h2
    cases h2
  · injection h1 with h2 h3 h4
    injection h2 with h2
    injection h2 with h2
    subst h2 h4
    rw [hg]
    have hc : cur.toList = (blkL k 0 l) := by
      rw [List.length_replicate, List.take_of_length_le (by rw [Array.length_toList, hsz]; exact Nat.le_refl _), intE_row] at hcur
      rw [hcur]
      simp [blkL]
    rw [← hc, Array.toArray_toList]
end Go.Proofs.YtbmcbbcgambflaaDoor
