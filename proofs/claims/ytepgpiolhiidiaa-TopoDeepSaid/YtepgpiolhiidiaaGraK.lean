/- graph.Out. -/
import Derived.Test.YtepgpiolhiidiaaGraJ
namespace Go.Proofs.Ytepgpiolhiidiaa
open Go.RowKit

theorem zero_Edge_ : ∀ i z, Try.prog.info? 50 = some i → i.zero = some z → z.cells.toList = edgeE.cs (0, 0, 0) := zero_Edge
theorem Rd.part {α : Type} {E : El α} {B : Nat} {w : World} {A : Option Addr} {xs : List α} (h : Rd E B w A xs) (i j : Nat) : Rd E B w (if j = i then A else A.map (fun x => x.add (i * E.sz))) ((xs.drop i).take (j - i)) := by
  by_cases hji : j = i
  · subst hji
    rw [Nat.sub_self, List.take_zero]
    exact Rd.nil_
  · rw [if_neg hji]
    have := h.cut (k := i) (c := xs.length + i + 1) (by omega)
    rw [if_neg (by omega)] at this
    exact this.take (j - i)
def outL (n : Int) (xs : List (Int × Int × Int)) (v : Int) : List (Int × Int × Int) := if askE n xs [v] = 0 then xs.filter (fun x => decide (x.1 = v)) else []
theorem askE_ok {n : Int} {xs : List (Int × Int × Int)} {vs : List Int} (h : askE n xs vs = 0) : rightG n xs = true ∧ vs.all (nodeIn n) = true := by
  unfold askE at h
  split at h
  · split at h
    · exact ⟨by assumption, by assumption⟩
    · cases h
  · cases h
theorem askE_cases (n : Int) (xs : List (Int × Int × Int)) (vs : List Int) : askE n xs vs = 0 ∨ askE n xs vs = 2 ∨ askE n xs vs = 150 := by
  unfold askE
  split
  · split
    · exact .inl rfl
    · exact .inr (.inl rfl)
  · exact .inr (.inr rfl)
end Go.Proofs.Ytepgpiolhiidiaa
