/- An argument that is an array of two integers: opened, and shut. -/
import Derived.Test.YtbmcbbcgambflaaDoorOpenG
namespace Go.Proofs.YtbmcbbcgambflaaDoor
open Go.RowKit Go.ChangeShapes Go.WideShapes Go.ChangeAt Go.Deep

section
variable {H : Type} {enc : TypeId × Value → H} {P : Program} {w : World} {base : Nat} {spare : Nat → Bool} {held : Bool}
theorem open_int2 {r : Reach} {b0 : Nat} {t e : TypeId} {k : IntKind} {v : Value} {d : DataW H} {p : List MemPlace} (ht : P.underlying t = some (.array 2 e)) (he : P.underlying e = some (.int k)) (hc : P.cellsOf e = 1) (hC : P.cellsOf t = 2)
    (hv : Value.okWide P w r b0 t v) (h : DataW.Trod enc P w base spare held t v d p) :
    ∃ x y : Int, v = .agg #[.int k x, .int k y] ∧ d = .agg [.lit (.int k x), .lit (.int k y)] ∧ p = [] ∧ (Lit.int k x).wf = true ∧ (Lit.int k y).wf = true := by
  simp only [Value.okWide, ht] at hv
  obtain ⟨cs, rfl, hsz, -⟩ := hv
  obtain ⟨l⟩ := cs
  obtain ⟨c0, c1, rfl⟩ : ∃ c0 c1, l = [c0, c1] := by
    match l, hsz.trans hC with
    | [c0, c1], _ => exact ⟨c0, c1, rfl⟩
  obtain ⟨fuel, hf⟩ := h
  obtain ⟨xs, m, -, hx, -, hl, hel⟩ := DataW.trod_array ht hf
  match xs, hl with
  | [y0, y1], _ =>
    have h0 := hel 0 (by decide)
    have h1 := hel 1 (by decide)
    rw [hc] at h0 h1
    simp [Value.cells] at h0 h1
    obtain ⟨x, e1, rfl, w1⟩ := DataW.trod_int he h0
    obtain ⟨y, e2, rfl, w2⟩ := DataW.trod_int he h1
    simp at e1 e2
    subst e1 e2
    simp at hx
    exact ⟨x, y, rfl, hx.1, hx.2, w1, w2⟩
theorem shut_int2 {t e : TypeId} {k : IntKind} {x y : Int} (ht : P.underlying t = some (.array 2 e)) (he : P.underlying e = some (.int k)) (hc : P.cellsOf e = 1) (hC : P.cellsOf t = 2)
    (w1 : (Lit.int k x).wf = true) (w2 : (Lit.int k y).wf = true) : DataW.Trod enc P w base spare held t (.agg #[.int k x, .int k y]) (.agg [.lit (.int k x), .lit (.int k y)]) [] := by
  refine ⟨2, ?_⟩
  have r2 : List.range 2 = [0, 1] := rfl
  simp [DataW.trod, ht, hC, he, hc, r2, w1, w2, Value.cells]
end
end Go.Proofs.YtbmcbbcgambflaaDoor
