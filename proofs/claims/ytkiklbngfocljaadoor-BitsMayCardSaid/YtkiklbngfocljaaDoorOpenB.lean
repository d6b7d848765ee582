/- An argument that is a set of numbers: opened. -/
import Derived.Test.YtkiklbngfocljaaDoorOpenG
import Derived.Test.YtkiklbngfocljaaDoorBitA
namespace Go.Proofs.YtkiklbngfocljaaDoor
open Go.RowKit Go.ChangeShapes Go.WideShapes Go.ChangeAt Go.Deep

theorem wf_u64 {x : Int} (h : (Lit.int .u64 x).wf = true) : 0 ≤ x ∧ x < 18446744073709551616 := by
  simp [Lit.wf, IntKind.min, IntKind.max, IntKind.signed, IntKind.bits] at h
  omega
section
variable {H : Type} {enc : TypeId × Value → H} {W : World} {base : Nat} {v : Value} {d : DataW H} {ps : List MemPlace}
theorem open_words {S e : TypeId} {fuel : Nat} {c0 : Value} {x : DataW H × List MemPlace} (hS : Tryd.prog.underlying S = some (.slice e)) (he : Tryd.prog.underlying e = some (.int .u64)) (hc1 : Tryd.prog.cellsOf e = 1)
    (hf : DataW.trod enc Tryd.prog W 0 (fun _ => true) true fuel S [c0] = some x) :
    ∃ A n c ws, c0 = .slice A n c ∧ n = ws.length ∧ (n ≤ c ∧ c ≤ maxLen) ∧ Rd wE W.heap.size W A ws ∧ Fit ws := by
  rcases open_ints hS he hc1 hf with ⟨hcs, _⟩ | ⟨x, l, k, zs, hcs, _, hl, hm, hz, _, hcell, hwz⟩
  · simp at hcs
    subst hcs
    exact ⟨none, 0, 0, [], rfl, rfl, ⟨Nat.le_refl _, Nat.zero_le _⟩, .inl rfl, fun x hx => by cases hx⟩
  · simp at hcs
    subst hcs
    simp at hz
    refine ⟨some x, l, k, (zs.take l).map Int.toNat, rfl, by rw [List.length_map, List.length_take]; omega, ⟨hl, hm⟩, rd_of_cells (n := l) _ (by rw [List.length_map, List.length_take]; omega) fun i y hy j u hu => ?_, fun y hy => ?_⟩
    · rw [List.getElem?_map, List.getElem?_take] at hy
      split at hy
      · cases hzi : zs[i]? with
        | none => rw [hzi] at hy; cases hy
        | some z =>
          rw [hzi] at hy
          simp at hy
          obtain ⟨hi, hzz⟩ := List.getElem?_eq_some_iff.1 hzi
          have hw := wf_u64 (hwz z (List.mem_of_getElem? hzi))
          match j, hu with
          | 0, hu =>
            simp [wE] at hu
            have := hcell i hi
            rw [List.getD, List.getElem?_eq_getElem hi, Option.getD_some, hzz] at this
            have e : (y : Int) = z := by omega
            rw [e] at hu
            simpa [wE, ← hu] using this
      · cases hy
    · obtain ⟨z, hz1, rfl⟩ := List.mem_map.1 hy
      have hw := wf_u64 (hwz z (List.mem_of_mem_take hz1))
      omega
theorem open_bits (hval : Value.okWide Tryd.prog W .any base 24 v) (h : DataW.Trod enc Tryd.prog W 0 (fun _ => true) true 24 v d ps) :
    ∃ A n c ws, v = .agg #[.slice A n c] ∧ n = ws.length ∧ (n ≤ c ∧ c ≤ maxLen) ∧ Rd wE W.heap.size W A ws ∧ Fit ws := by
  obtain ⟨cs, rfl, hsz⟩ := okWide_struct Tryd.underlying24 hval
  obtain ⟨l⟩ := cs
  have h1 : Tryd.prog.cellsOf 24 = 1 := by kernel_rfl
  rw [h1] at hsz
  obtain ⟨c0, rfl⟩ : ∃ c0, l = [c0] := by
    match l, hsz with
    | [c0], _ => exact ⟨c0, rfl⟩
  obtain ⟨fuel, hf⟩ := h
  obtain ⟨xs, m, -, hx, -, hl, hel⟩ := DataW.trod_struct Tryd.underlying24 hf
  match xs, hl with
  | [y0], _ =>
    have h0 := hel 0 _ rfl
    have h2 : Tryd.prog.cellsOf 22 = 1 := by kernel_rfl
    have h3 : DataW.trod enc Tryd.prog W 0 (fun _ => true) true m 22 ((([c0] : List Value).drop 0).take (Tryd.prog.cellsOf 22)) = some y0 := h0
    rw [h2] at h3
    obtain ⟨A, n, c, ws, rfl, r1, r2, r3, r4⟩ := open_words (S := 22) (e := 43) (by kernel_rfl) (by kernel_rfl) (by kernel_rfl) (by simpa using h3)
    exact ⟨A, n, c, ws, rfl, r1, r2, r3, r4⟩
end
end Go.Proofs.YtkiklbngfocljaaDoor
