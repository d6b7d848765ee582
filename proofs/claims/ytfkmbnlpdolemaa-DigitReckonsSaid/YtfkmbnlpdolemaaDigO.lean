/- DigitOrder: of two numbers sum and product are the same in either order. -/
import Derived.Test.YtfkmbnlpdolemaaDigW
namespace Go.Proofs.Ytfkmbnlpdolemaa
open Go.RowKit Go.Lib

theorem wf_in {n : Int} (h : (Lit.int .i64 n).wf = true) : in64 n := by
  have h1 : IntKind.min .i64 = -9223372036854775808 := by decide
  have h2 : IntKind.max .i64 = 9223372036854775807 := by decide
  simp only [Lit.wf, Bool.and_eq_true, decide_eq_true_eq, h1, h2] at h
  unfold in64
  omega
theorem fit_in {n : Int} (h : in64 n) : fit n = (n, true) := by
  unfold fit
  unfold in64 at h
  rw [if_pos (by omega)]
theorem fit_out {n : Int} (h : ¬ in64 n) : fit n = (0, false) := by
  unfold fit
  unfold in64 at h
  rw [if_neg (by omega)]

set_option maxRecDepth 100000 in
set_option maxHeartbeats 4000000 in
theorem digitOrder_any (a b : Int) (ha : in64 a) (hb : in64 b) (w : World) :
    Calls Try.prog 5 #[.int .i64 a, .int .i64 b] w fun e w' => e = .returned (.bool true) ∧ Ext w w' := by
  replace ha := hide ha
  replace hb := hide hb
  go_enter Try.func5, Try.ntmps5
  go_wp2_with fail
  refine (wakes_any _).mono ?_
  rintro e w1 ⟨rfl, hE1⟩
  go_wp2_with fail
  refine (sum2_any a b ha.out hb.out _).mono ?_
  rintro e w2 ⟨rfl, hE2⟩
  go_wp2_with fail
  refine (sum2_any b a hb.out ha.out _).mono ?_
  rintro e w3 ⟨rfl, hE3⟩
  rw [Int.add_comm b a]
  go_wp2_with fail
  refine (mul_any a b ha.out hb.out _).mono ?_
  rintro e w4 ⟨rfl, hE4⟩
  go_wp2_with fail
  refine (mul_any b a hb.out ha.out _).mono ?_
  rintro e w5 ⟨rfl, hE5⟩
  rw [Int.mul_comm b a]
  have hE := (((hE1.trans (hE2.mono hE1.size)).trans (hE3.mono (Nat.le_trans hE1.size hE2.size))).trans (hE4.mono (Nat.le_trans hE1.size (Nat.le_trans hE2.size hE3.size)))).trans (hE5.mono (Nat.le_trans hE1.size (Nat.le_trans hE2.size (Nat.le_trans hE3.size hE4.size))))
  clear hE1 hE2 hE3 hE4 hE5
  have f3 : wrap64 a = a := by have := ha.out; unfold in64 at this; unfold wrap64; omega
  by_cases hs : in64 (a + b)
  · rw [fit_in hs]
    obtain ⟨X, hX⟩ : ∃ X, X = a + b := ⟨_, rfl⟩
    rw [← hX] at hs ⊢
    have f1 : wrap64 (X - b) = a := by have := ha.out; unfold in64 at this; unfold wrap64; omega
    have f2 : decide (0 ≤ b) = decide (a ≤ X) := decide_eq_decide.2 (by omega)
    replace hX := hide hX
    replace hs := hide hs
    by_cases hp : in64 (a * b)
    · rw [fit_in hp]
      replace hp := hide hp
      by_cases hb0 : b = 0
      · subst hb0
        have hXa : X = a := by have := hX.out; omega
        clear f1 f2 hX
        subst X
        rw [Int.mul_zero]
        go_wp2_with fail
        refine (mul_any a 1 ha.out (by unfold in64; omega) _).mono ?_
        rintro e w6 ⟨rfl, hE6⟩
        rw [Int.mul_one, fit_in ha.out]
        go_wp2_with fail
        refine (mul_any a 0 ha.out (by unfold in64; omega) _).mono ?_
        rintro e w7 ⟨rfl, hE7⟩
        rw [Int.mul_zero, show fit 0 = (0, true) by decide]
        go_wp2_with fail
        refine (sum2_any a 0 ha.out (by unfold in64; omega) _).mono ?_
        rintro e w8 ⟨rfl, hE8⟩
        rw [Int.add_zero, fit_in ha.out]
        go_wp2
        go_ret
        exact ⟨rfl, ((hE.trans (hE6.mono hE.size)).trans (hE7.mono (Nat.le_trans hE.size hE6.size))).trans (hE8.mono (Nat.le_trans hE.size (Nat.le_trans hE6.size hE7.size)))⟩
      · go_wp2_with fail
        refine (mul_any a 1 ha.out (by unfold in64; omega) _).mono ?_
        rintro e w6 ⟨rfl, hE6⟩
        rw [Int.mul_one, fit_in ha.out]
        go_wp2_with fail
        refine (mul_any a 0 ha.out (by unfold in64; omega) _).mono ?_
        rintro e w7 ⟨rfl, hE7⟩
        rw [Int.mul_zero, show fit 0 = (0, true) by decide]
        go_wp2_with fail
        refine (sum2_any a 0 ha.out (by unfold in64; omega) _).mono ?_
        rintro e w8 ⟨rfl, hE8⟩
        rw [Int.add_zero, fit_in ha.out]
        go_wp2
        go_ret
        exact ⟨rfl, ((hE.trans (hE6.mono hE.size)).trans (hE7.mono (Nat.le_trans hE.size hE6.size))).trans (hE8.mono (Nat.le_trans hE.size (Nat.le_trans hE6.size hE7.size)))⟩
    · rw [fit_out hp]
      replace hp := hide hp
      go_wp2_with fail
      refine (mul_any a 1 ha.out (by unfold in64; omega) _).mono ?_
      rintro e w6 ⟨rfl, hE6⟩
      rw [Int.mul_one, fit_in ha.out]
      go_wp2_with fail
      refine (mul_any a 0 ha.out (by unfold in64; omega) _).mono ?_
      rintro e w7 ⟨rfl, hE7⟩
      rw [Int.mul_zero, show fit 0 = (0, true) by decide]
      go_wp2_with fail
      refine (sum2_any a 0 ha.out (by unfold in64; omega) _).mono ?_
      rintro e w8 ⟨rfl, hE8⟩
      rw [Int.add_zero, fit_in ha.out]
      go_wp2
      go_ret
      exact ⟨rfl, ((hE.trans (hE6.mono hE.size)).trans (hE7.mono (Nat.le_trans hE.size hE6.size))).trans (hE8.mono (Nat.le_trans hE.size (Nat.le_trans hE6.size hE7.size)))⟩
  · rw [fit_out hs]
    replace hs := hide hs
    by_cases hp : in64 (a * b)
    · rw [fit_in hp]
      replace hp := hide hp
      by_cases hb0 : b = 0
      · subst hb0
        rw [Int.mul_zero]
        go_wp2_with fail
        refine (mul_any a 1 ha.out (by unfold in64; omega) _).mono ?_
        rintro e w6 ⟨rfl, hE6⟩
        rw [Int.mul_one, fit_in ha.out]
        go_wp2_with fail
        refine (mul_any a 0 ha.out (by unfold in64; omega) _).mono ?_
        rintro e w7 ⟨rfl, hE7⟩
        rw [Int.mul_zero, show fit 0 = (0, true) by decide]
        go_wp2_with fail
        refine (sum2_any a 0 ha.out (by unfold in64; omega) _).mono ?_
        rintro e w8 ⟨rfl, hE8⟩
        rw [Int.add_zero, fit_in ha.out]
        go_wp2
        go_ret
        exact ⟨rfl, ((hE.trans (hE6.mono hE.size)).trans (hE7.mono (Nat.le_trans hE.size hE6.size))).trans (hE8.mono (Nat.le_trans hE.size (Nat.le_trans hE6.size hE7.size)))⟩
      · go_wp2_with fail
        refine (mul_any a 1 ha.out (by unfold in64; omega) _).mono ?_
        rintro e w6 ⟨rfl, hE6⟩
        rw [Int.mul_one, fit_in ha.out]
        go_wp2_with fail
        refine (mul_any a 0 ha.out (by unfold in64; omega) _).mono ?_
        rintro e w7 ⟨rfl, hE7⟩
        rw [Int.mul_zero, show fit 0 = (0, true) by decide]
        go_wp2_with fail
        refine (sum2_any a 0 ha.out (by unfold in64; omega) _).mono ?_
        rintro e w8 ⟨rfl, hE8⟩
        rw [Int.add_zero, fit_in ha.out]
        go_wp2
        go_ret
        exact ⟨rfl, ((hE.trans (hE6.mono hE.size)).trans (hE7.mono (Nat.le_trans hE.size hE6.size))).trans (hE8.mono (Nat.le_trans hE.size (Nat.le_trans hE6.size hE7.size)))⟩
    · rw [fit_out hp]
      replace hp := hide hp
      go_wp2_with fail
      refine (mul_any a 1 ha.out (by unfold in64; omega) _).mono ?_
      rintro e w6 ⟨rfl, hE6⟩
      rw [Int.mul_one, fit_in ha.out]
      go_wp2_with fail
      refine (mul_any a 0 ha.out (by unfold in64; omega) _).mono ?_
      rintro e w7 ⟨rfl, hE7⟩
      rw [Int.mul_zero, show fit 0 = (0, true) by decide]
      go_wp2_with fail
      refine (sum2_any a 0 ha.out (by unfold in64; omega) _).mono ?_
      rintro e w8 ⟨rfl, hE8⟩
      rw [Int.add_zero, fit_in ha.out]
      go_wp2
      go_ret
      exact ⟨rfl, ((hE.trans (hE6.mono hE.size)).trans (hE7.mono (Nat.le_trans hE.size hE6.size))).trans (hE8.mono (Nat.le_trans hE.size (Nat.le_trans hE6.size hE7.size)))⟩
end Go.Proofs.Ytfkmbnlpdolemaa
