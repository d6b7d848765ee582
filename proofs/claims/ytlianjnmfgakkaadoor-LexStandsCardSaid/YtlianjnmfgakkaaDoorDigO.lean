/- DigitOrder: of two numbers sum and product are the same in either order. -/
import Derived.Test.YtlianjnmfgakkaaDoorDigW
namespace Go.Proofs.YtlianjnmfgakkaaDoor
open Go.RowKit Go.Lib

theorem wf_in {n : Int} (h : (Lit.int .i64 n).wf = true) : in64 n := by
  have h1 : IntKind.min .i64 = -9223372036854775808 := by decide
  have h2 : IntKind.max .i64 = 9223372036854775807 := by decide
  simp only [Lit.wf, Bool.and_eq_true, decide_eq_true_eq, h1, h2] at h
  unfold in64
  omega
theorem fit_in {n : Int} (h : in64 n) : fit n = (n, true) := by
  unfold fit
  unfold in64 at h
  rw [if_pos (by omega)]
theorem fit_out {n : Int} (h : ¬ in64 n) : fit n = (0, false) := by
  unfold fit
  unfold in64 at h
  rw [if_neg (by omega)]

end Go.Proofs.YtlianjnmfgakkaaDoor
