/- Arguments opened: rows of pairs, of integers and of texts, as lists. -/
import Derived.Test.YtlianjnmfgakkaaDoorBase
import Derived.Test.YtlianjnmfgakkaaDoorChecked
import Derived.ProofKit
import Derived.OpenShut
import Derived.ShutString
import Derived.ChangeOld
import Derived.Deep.Slices
import Derived.Deep.Fields
import Derived.SliceStrings
import Derived.Laws.World
namespace Go.Proofs.YtlianjnmfgakkaaDoor
open Go.RowKit Go.ChangeShapes Go.WideShapes Go.ChangeAt Go.Deep
theorem ownKnob_ : ownKnob Tryd.prog.godebug = none := by kernel_rfl
theorem laidOut_ : laidOutB Tryd.prog = true := by kernel_rfl

theorem rd_of_cells {α : Type} {E : El α} {w : World} {a : Addr} {n : Nat} (xs : List α) (hl : xs.length = n) (h : ∀ i x, xs[i]? = some x → ∀ j u, (E.cs x)[j]? = some u → w.cell? (a.add (i * E.sz + j)) = some u) : Rd E w.heap.size w (some a) xs := by
  cases xs with
  | nil => exact .inl rfl
  | cons x xs =>
    obtain ⟨u, hu⟩ : ∃ u, (E.cs x)[0]? = some u := ⟨_, List.getElem?_eq_getElem (by rw [E.len]; exact E.pos)⟩
    have h0 := h 0 x rfl 0 u hu
    have hlt := World.block_lt_of_cell? w _ h0
    have hsp := World.cell?_spot h0
    obtain ⟨b, off, sp⟩ := a
    obtain rfl : sp = none := by simpa [Addr.add] using hsp
    refine .inr ⟨b, off, rfl, by simpa [Addr.add] using hlt, fun i y hy j u hu => ?_⟩
    have := h i y hy j u hu
    rw [Addr.add_lit] at this
    rw [Nat.add_assoc]
    exact this
theorem list_of {α : Type} (p : Nat → α → Prop) : ∀ n : Nat, (∀ i, i < n → ∃ x, p i x) → ∃ xs : List α, xs.length = n ∧ ∀ i x, xs[i]? = some x → p i x
  | 0, _ => ⟨[], rfl, fun i x h => by simp at h⟩
  | n + 1, h => by
    obtain ⟨xs, hl, hx⟩ := list_of p n (fun i hi => h i (by omega))
    obtain ⟨x, hxn⟩ := h n (by omega)
    refine ⟨xs ++ [x], by simp [hl], fun i y hy => ?_⟩
    by_cases hi : i < n
    · exact hx i y (by rwa [List.getElem?_append_left (by omega)] at hy)
    · have := (List.getElem?_eq_some_iff.1 hy).1
      simp at this
      obtain rfl : i = n := by omega
      rw [List.getElem?_append_right (by omega)] at hy
      simp [hl] at hy
      exact hy ▸ hxn

section
variable {H : Type} {enc : TypeId × Value → H} {W : World} {base : Nat} {v : Value} {d : DataW H} {ps : List MemPlace}
set_option maxRecDepth 100000 in
theorem open_intRowT {S e : TypeId} (hS : Tryd.prog.underlying S = some (.slice e)) (he : Tryd.prog.underlying e = some (.int .i64)) (hc1 : Tryd.prog.cellsOf e = 1) (hval : Value.okWide Tryd.prog W .any base S v) (h : DataW.Trod enc Tryd.prog W 0 (fun _ => true) true S v d ps) :
    ∃ A n c xs, v = .slice A n c ∧ n = xs.length ∧ (n ≤ c ∧ c ≤ maxLen) ∧ Rd intE W.heap.size W A xs ∧ ∀ x ∈ xs, (Lit.int .i64 x).wf = true := by
  obtain ⟨A, n, c, rfl⟩ := okWide_slice hS hval
  obtain ⟨fuel, hf⟩ := h
  rcases open_ints hS he hc1 hf with ⟨hcs, _⟩ | ⟨x, l, k, zs, hcs, _, hl, hm, hz, _, hcell, hwz⟩
  · simp [Value.cells] at hcs
    obtain ⟨rfl, rfl, rfl⟩ := hcs
    exact ⟨none, 0, 0, [], rfl, rfl, ⟨Nat.le_refl _, Nat.zero_le _⟩, .inl rfl, by simp⟩
  · simp [Value.cells] at hcs
    obtain ⟨rfl, rfl, rfl⟩ := hcs
    simp at hz
    refine ⟨some x, n, c, zs.take n, rfl, by rw [List.length_take]; omega, ⟨hl, hm⟩, rd_of_cells (n := n) _ (by rw [List.length_take]; omega) fun i y hy j u hu => ?_, fun y hy => hwz y (List.mem_of_mem_take hy)⟩
    rw [List.getElem?_take] at hy
    split at hy
    · obtain ⟨hi, rfl⟩ := List.getElem?_eq_some_iff.1 hy
      match j, hu with
      | 0, hu =>
        simp [intE] at hu
        have := hcell i hi
        rw [List.getD, List.getElem?_eq_getElem hi, Option.getD_some] at this
        simpa [intE, ← hu] using this
    · cases hy
set_option maxRecDepth 100000 in
theorem open_strRowT {S e : TypeId} (hS : Tryd.prog.underlying S = some (.slice e)) (he : Tryd.prog.underlying e = some .string) (hc1 : Tryd.prog.cellsOf e = 1) (hval : Value.okWide Tryd.prog W .any base S v) (h : DataW.Trod enc Tryd.prog W 0 (fun _ => true) true S v d ps) :
    ∃ A n c xs, v = .slice A n c ∧ n = xs.length ∧ (n ≤ c ∧ c ≤ maxLen) ∧ Rd strE W.heap.size W A xs ∧ ∀ x ∈ xs, x.size ≤ maxLen := by
  obtain ⟨A, n, c, rfl⟩ := okWide_slice hS hval
  obtain ⟨fuel, hf⟩ := h
  rcases open_strings hS he hc1 hf with ⟨hcs, _⟩ | ⟨x, l, k, zs, hcs, _, hl, hm, hz, _, hcell, hwz⟩
  · simp [Value.cells] at hcs
    obtain ⟨rfl, rfl, rfl⟩ := hcs
    exact ⟨none, 0, 0, [], rfl, rfl, ⟨Nat.le_refl _, Nat.zero_le _⟩, .inl rfl, by simp⟩
  · simp [Value.cells] at hcs
    obtain ⟨rfl, rfl, rfl⟩ := hcs
    simp at hz
    refine ⟨some x, n, c, zs.take n, rfl, by rw [List.length_take]; omega, ⟨hl, hm⟩, rd_of_cells (n := n) _ (by rw [List.length_take]; omega) fun i y hy j u hu => ?_, fun y hy => hwz y (List.mem_of_mem_take hy)⟩
    rw [List.getElem?_take] at hy
    split at hy
    · obtain ⟨hi, rfl⟩ := List.getElem?_eq_some_iff.1 hy
      match j, hu with
      | 0, hu =>
        simp [strE] at hu
        have := hcell i hi
        rw [List.getD, List.getElem?_eq_getElem hi, Option.getD_some] at this
        simpa [strE, ← hu] using this
    · cases hy
end
end Go.Proofs.YtlianjnmfgakkaaDoor
