/- The stage wakes: yardarmlaw01.wakes is true; yardarmlaw01.cut. -/
import Derived.Test.YtfkmbnlpdolemaaDigE
namespace Go.Proofs.Ytfkmbnlpdolemaa
open Go.RowKit Go.Lib

theorem text120 : bs (txt (-120)) = ⟨#[45, 49, 50, 48]⟩ := by
  have : txt (-120) = [45, 49, 50, 48] := by
    unfold txt
    rw [if_pos (by decide)]
    rw [show (-120 : Int).natAbs = 120 from rfl, dig, if_neg (by decide), dig, if_neg (by decide), dig, if_pos (by decide)]
    rfl
  rw [this]
  rfl
set_option maxHeartbeats 2000000 in
theorem wakes_any (w : World) : Calls Try.prog 8 #[] w fun e w' => e = .returned (.bool true) ∧ Ext w w' := by
  have r1 : readS (nums ⟨#[45, 49, 50, 48]⟩) = (-120, 0) := by decide +kernel
  have r2 : readS (nums ⟨#[57, 50, 50, 51, 51, 55, 50, 48, 51, 54, 56, 53, 52, 55, 55, 53, 56, 48, 56]⟩) = (0, 111) := by decide +kernel
  have r3 : headEnd (nums ⟨#[45, 49, 50, 97, 98]⟩) = 3 := by decide +kernel
  have r4 : ByteArray.extract ⟨#[45, 49, 50, 97, 98]⟩ 0 3 = ⟨#[45, 49, 50]⟩ := by decide +kernel
  have r5 : ByteArray.extract ⟨#[45, 49, 50, 97, 98]⟩ 3 5 = ⟨#[97, 98]⟩ := by decide +kernel
  replace r1 := hide r1
  replace r2 := hide r2
  replace r3 := hide r3
  replace r4 := hide r4
  replace r5 := hide r5
  go_enter Try.func8, Try.ntmps8
  go_wp2_with fail
  refine (read_any _ (by decide) _).mono ?_
  rintro e w1 ⟨rfl, hE1⟩
  rw [r1.out]
  go_wp2_with fail
  refine (read_any _ (by decide) _).mono ?_
  rintro e w2 ⟨rfl, hE2⟩
  rw [r2.out]
  go_wp2_with fail
  refine (head_any _ (by decide) _).mono ?_
  rintro e w3 ⟨rfl, hE3⟩
  rw [r3.out, r4.out, show ByteArray.size ⟨#[45, 49, 50, 97, 98]⟩ = 5 from rfl, r5.out]
  go_wp2_with fail
  refine (mul_any (-3) 5 (by unfold in64; omega) (by unfold in64; omega) _).mono ?_
  rintro e w4 ⟨rfl, hE4⟩
  rw [show fit (-3 * 5) = (-15, true) by decide]
  go_wp2_with fail
  refine (text_any (-120) (by unfold in64; omega) _).mono ?_
  rintro e w5 ⟨rfl, hE5⟩
  rw [text120]
  go_wp2
  go_ret
  exact ⟨rfl, (((hE1.trans (hE2.mono hE1.size)).trans (hE3.mono (Nat.le_trans hE1.size hE2.size))).trans (hE4.mono (Nat.le_trans hE1.size (Nat.le_trans hE2.size hE3.size)))).trans (hE5.mono (Nat.le_trans hE1.size (Nat.le_trans hE2.size (Nat.le_trans hE3.size hE4.size))))⟩
end Go.Proofs.Ytfkmbnlpdolemaa
