/- Contracts of sums: a total that goes on, the number that it is, sums of two and of all. -/
import Derived.Test.YtlianjnmfgakkaaDoorDigA
namespace Go.Proofs.YtlianjnmfgakkaaDoor
open Go.RowKit

theorem ret_agg2 {a a' b b' : Int} (h1 : a = a') (h2 : b = b') : Value.agg #[.int .u64 a, .int .i64 b] = .agg #[.int .u64 a', .int .i64 b'] := by rw [h1, h2]
/-- a total, of a whole number -/
def totV (S : Int) : Value := .agg #[.int .u64 (S % 18446744073709551616), .int .i64 (S / 18446744073709551616)]
def small (S : Int) : Prop := -85070591730234615865843651857942052864 ≤ S ∧ S ≤ 85070591730234615865843651857942052864
theorem small_in {a : Int} (h : in64 a) : small a := by unfold in64 at h; unfold small; omega
theorem small_two {a b : Int} (h : in64 a) (h' : in64 b) : small (a + b) := by unfold in64 at h h'; unfold small; omega
theorem small_zero : small 0 := by unfold small; omega
def errS (ok : Bool) : Int := if ok then 0 else 111
/-- a total lies in a block -/
def TotAt (w : World) (b : Nat) (S : Int) : Prop :=
  w.cell? ⟨b, 0, none⟩ = some (.int .u64 (S % 18446744073709551616)) ∧ w.cell? ⟨b, 1, none⟩ = some (.int .i64 (S / 18446744073709551616)) ∧ w.frozen? ⟨b, 0, none⟩ = false ∧ w.frozen? ⟨b, 1, none⟩ = false ∧ b < w.heap.size
theorem fit_no {s v : Int} (h : fit s = (v, false)) : v = 0 := by
  unfold fit at h
  split at h
  · cases h
  · cases h; rfl
theorem TotAt.ext {w w' : World} {b : Nat} {S : Int} (h : TotAt w b S) (hE : Ext w w') : TotAt w' b S := by
  obtain ⟨h1, h2, h3, h4, h5⟩ := h
  obtain ⟨hc, hf⟩ := bcell hE
  exact ⟨(hc _ _ h5).trans h1, (hc _ _ h5).trans h2, (hf _ _ h5).trans h3, (hf _ _ h5).trans h4, Nat.lt_of_lt_of_le h5 hE.size⟩
theorem take_sum {xs : List Int} {k : Nat} {p : Int} (h : xs[k]? = some p) : (xs.take (k + 1)).sum = (xs.take k).sum + p := by
  rw [List.take_add_one, h]
  simp
theorem sum_small : ∀ xs : List Int, (∀ x ∈ xs, in64 x) → -(9223372036854775808 * xs.length : Int) ≤ xs.sum ∧ xs.sum ≤ 9223372036854775808 * xs.length
  | [], _ => by simp
  | x :: xs, h => by
    have h1 := h x (by simp)
    have h2 := sum_small xs (fun y hy => h y (List.mem_cons_of_mem _ hy))
    unfold in64 at h1
    simp only [List.sum_cons, List.length_cons]
    omega
theorem small_sum {xs : List Int} (h : ∀ x ∈ xs, in64 x) (hl : xs.length ≤ 1000000) : small xs.sum := by
  have := sum_small xs h
  unfold small
  omega
theorem small_take {xs : List Int} (h : ∀ x ∈ xs, in64 x) (hl : xs.length ≤ 1000000) (k : Nat) : small (xs.take k).sum :=
  small_sum (fun x hx => h x (List.mem_of_mem_take hx)) (by rw [List.length_take]; omega)
end Go.Proofs.YtlianjnmfgakkaaDoor
