/- An argument that is a row of rows of integers: opened. -/
import Derived.Test.YtepgpiolhiidiaaOpenG
namespace Go.Proofs.Ytepgpiolhiidiaa
open Go.RowKit Go.ChangeShapes Go.WideShapes Go.ChangeAt Go.Deep

abbrev RArg := (Option Addr × Nat × Nat) × List Int
/-- a row of rows, as an argument has them -/
def RRow (w : World) (A : Option Addr) (L : List RArg) : Prop := (L = [] ∨ ∃ b off, A = some ⟨b, off, none⟩ ∧ b < w.heap.size ∧ ∀ i s, L[i]? = some s → w.cell? ⟨b, off + i, none⟩ = some (.slice s.1.1 s.1.2.1 s.1.2.2)) ∧
  ∀ s ∈ L, Rd intE w.heap.size w s.1.1 s.2 ∧ s.1.2.1 = s.2.length ∧ s.1.2.1 ≤ s.1.2.2 ∧ s.1.2.2 ≤ maxLen
section
variable {H : Type} {enc : TypeId × Value → H} {W : World} {base : Nat} {v : Value} {d : DataW H} {ps : List MemPlace}
theorem open_intRow0 {S e : TypeId} {fuel : Nat} {c0 : Value} {x : DataW H × List MemPlace} (hS : Try.prog.underlying S = some (.slice e)) (he : Try.prog.underlying e = some (.int .i64)) (hc1 : Try.prog.cellsOf e = 1)
    (hf : DataW.trod enc Try.prog W 0 (fun _ => true) true fuel S [c0] = some x) :
    ∃ A n c xs, c0 = .slice A n c ∧ n = xs.length ∧ (n ≤ c ∧ c ≤ maxLen) ∧ Rd intE W.heap.size W A xs ∧ ∀ x ∈ xs, (Lit.int .i64 x).wf = true := by
  rcases open_ints hS he hc1 hf with ⟨hcs, _⟩ | ⟨x, l, k, zs, hcs, _, hl, hm, hz, _, hcell, hwz⟩
  · simp at hcs
    subst hcs
    exact ⟨none, 0, 0, [], rfl, rfl, ⟨Nat.le_refl _, Nat.zero_le _⟩, .inl rfl, by simp⟩
  · simp at hcs
    subst hcs
    simp at hz
    refine ⟨some x, l, k, zs.take l, rfl, by rw [List.length_take]; omega, ⟨hl, hm⟩, rd_of_cells (n := l) _ (by rw [List.length_take]; omega) fun i y hy j u hu => ?_, fun y hy => hwz y (List.mem_of_mem_take hy)⟩
    rw [List.getElem?_take] at hy
    split at hy
    · obtain ⟨hi, rfl⟩ := List.getElem?_eq_some_iff.1 hy
      match j, hu with
      | 0, hu =>
        simp [intE] at hu
        have := hcell i hi
        rw [List.getD, List.getElem?_eq_getElem hi, Option.getD_some] at this
        simpa [intE, ← hu] using this
    · cases hy
theorem open_intRows {S R e : TypeId} (hS : Try.prog.underlying S = some (.slice R)) (hR : Try.prog.underlying R = some (.slice e)) (he : Try.prog.underlying e = some (.int .i64)) (hcR : Try.prog.cellsOf R = 1) (hc1 : Try.prog.cellsOf e = 1) (hval : Value.okWide Try.prog W .any base S v) (h : DataW.Trod enc Try.prog W 0 (fun _ => true) true S v d ps) :
    ∃ A n c L, v = .slice A n c ∧ n = L.length ∧ (n ≤ c ∧ c ≤ maxLen) ∧ RRow W A L ∧ ∀ s ∈ L, ∀ x ∈ s.2, (Lit.int .i64 x).wf = true := by
  obtain ⟨A, n, c, rfl⟩ := okWide_slice hS hval
  obtain ⟨fuel, hf⟩ := h
  rcases open_slice1 hS hcR hf with ⟨hcs, _⟩ | ⟨a, l, k, m, fu, V, D, Pl, hcs, _, hl, hm, hmm, _, hi⟩
  · simp [Value.cells] at hcs
    obtain ⟨rfl, rfl, rfl⟩ := hcs
    exact ⟨none, 0, 0, [], rfl, rfl, ⟨Nat.le_refl _, Nat.zero_le _⟩, ⟨.inl rfl, fun s hs => by cases hs⟩, fun s hs => by cases hs⟩
  · simp [Value.cells] at hcs
    obtain ⟨rfl, rfl, rfl⟩ := hcs
    simp at hmm
    subst hmm
    obtain ⟨L, hLl, hL⟩ := list_of (fun i (s : RArg) => W.cell? (a.add i) = some (.slice s.1.1 s.1.2.1 s.1.2.2) ∧ (Rd intE W.heap.size W s.1.1 s.2 ∧ s.1.2.1 = s.2.length ∧ s.1.2.1 ≤ s.1.2.2 ∧ s.1.2.2 ≤ maxLen) ∧ ∀ x ∈ s.2, (Lit.int .i64 x).wf = true) n (fun i hin => by
      obtain ⟨h1, h2⟩ := hi i (by omega)
      obtain ⟨A', n', c', xs, e, r1, r2, r3, r4⟩ := open_intRow0 hR he hc1 h2
      exact ⟨((A', n', c'), xs), by rw [h1, e], ⟨r3, r1, r2.1, r2.2⟩, r4⟩)
    have hat : ∀ s ∈ L, (Rd intE W.heap.size W s.1.1 s.2 ∧ s.1.2.1 = s.2.length ∧ s.1.2.1 ≤ s.1.2.2 ∧ s.1.2.2 ≤ maxLen) ∧ ∀ x ∈ s.2, (Lit.int .i64 x).wf = true := by
      intro s hs
      obtain ⟨i, hi⟩ := List.mem_iff_getElem?.1 hs
      exact (hL i s hi).2
    refine ⟨some a, n, _, L, rfl, hLl.symm, ⟨hl, hm⟩, ⟨?_, fun s hs => (hat s hs).1⟩, fun s hs => (hat s hs).2⟩
    cases L with
    | nil => exact .inl rfl
    | cons s L =>
      have h0 := (hL 0 s rfl).1
      have hlt := World.block_lt_of_cell? W _ h0
      have hsp := World.cell?_spot h0
      obtain ⟨b, off, sp⟩ := a
      obtain rfl : sp = none := by simpa [Addr.add] using hsp
      refine .inr ⟨b, off, rfl, by simpa [Addr.add] using hlt, fun i y hy => ?_⟩
      have := (hL i y hy).1
      rw [Addr.add_lit] at this
      exact this
end
end Go.Proofs.Ytepgpiolhiidiaa
