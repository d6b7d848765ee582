/- An argument that is a table of names: opened. -/
import Derived.Test.YtpfmbehhppbcnaaDoorOpenT
namespace Go.Proofs.YtpfmbehhppbcnaaDoor
open Go.RowKit Go.ChangeShapes Go.WideShapes Go.ChangeAt Go.Deep
section
variable {H : Type} {enc : TypeId × Value → H} {W : World} {base : Nat} {v : Value} {d : DataW H} {ps : List MemPlace}
theorem open_table (hval : Value.okWide Tryd.prog W .any base 27 v) (h : DataW.Trod enc Tryd.prog W 0 (fun _ => true) true 27 v d ps) :
    ∃ A n c ws, v = .agg #[.slice A n c] ∧ n = ws.length ∧ (n ≤ c ∧ c ≤ maxLen) ∧ Rd strE W.heap.size W A ws ∧ ∀ x ∈ ws, x.size ≤ maxLen := by
  obtain ⟨cs, rfl, hsz⟩ := okWide_struct Tryd.underlying27 hval
  obtain ⟨l⟩ := cs
  have h1 : Tryd.prog.cellsOf 27 = 1 := by kernel_rfl
  rw [h1] at hsz
  obtain ⟨c0, rfl⟩ : ∃ c0, l = [c0] := by
    match l, hsz with
    | [c0], _ => exact ⟨c0, rfl⟩
  obtain ⟨fuel, hf⟩ := h
  obtain ⟨xs, m, -, hx, -, hl, hel⟩ := DataW.trod_struct Tryd.underlying27 hf
  match xs, hl with
  | [y0], _ =>
    have h0 := hel 0 _ rfl
    have h2 : Tryd.prog.cellsOf 24 = 1 := by kernel_rfl
    have h3 : DataW.trod enc Tryd.prog W 0 (fun _ => true) true m 24 ((([c0] : List Value).drop 0).take (Tryd.prog.cellsOf 24)) = some y0 := h0
    rw [h2] at h3
    obtain ⟨A, n, c, ws, rfl, r1, r2, r3, r4⟩ := open_strRow0 (S := 24) (e := 9) (by kernel_rfl) (by kernel_rfl) (by kernel_rfl) (by simpa using h3)
    exact ⟨A, n, c, ws, rfl, r1, r2, r3, r4⟩
end
end Go.Proofs.YtpfmbehhppbcnaaDoor
