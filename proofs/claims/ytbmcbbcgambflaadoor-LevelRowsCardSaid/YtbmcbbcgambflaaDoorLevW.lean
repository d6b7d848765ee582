/- The stage wakes: yardarmlaw09.wakes is true; slices.Equal at rows of integers. -/
import Derived.Test.YtbmcbbcgambflaaDoorLevC
namespace Go.Proofs.YtbmcbbcgambflaaDoor
open Go.RowKit

theorem below_drewN {B : Nat} {a w : World} (h : Below B a w) (n : Nat) : Below B a (w.drewN n) := h.trans ⟨rfl, rfl, rfl, Nat.le_refl _, fun _ _ => rfl⟩
theorem equal_any (A1 A2 : Option Addr) (n1 c1 n2 c2 : Nat) (xs ys : List Int) (w : World) (h1 : Rd intE w.heap.size w A1 xs) (h2 : Rd intE w.heap.size w A2 ys) (hn1 : n1 = xs.length) (hn2 : n2 = ys.length) (hl1 : n1 ≤ 1000000) (hl2 : n2 ≤ 1000000) :
    Calls Tryd.prog 24 #[.slice A1 n1 c1, .slice A2 n2 c2] w fun e w' => e = .returned (.bool (decide (xs = ys))) ∧ Ext w w' := by
  by_cases hlen : n1 = n2
  · rcases h1 with h1 | ⟨b1, o1, rfl, h1⟩
    · subst h1
      simp at hn1
      subst hn1
      have hys : ys = [] := List.eq_nil_of_length_eq_zero (by omega)
      subst hys
      refine (Tryd.slices_Equal_int_empty A1 A2 c1 n2 c2 w (by omega)).mono ?_
      rintro e w' ⟨rfl, rfl⟩
      exact ⟨ret_bool (by rw [decide_eq_true (by omega)]; rfl), Below.refl _ _⟩
    · rcases h2 with h2 | ⟨b2, o2, rfl, h2⟩
      · subst h2
        simp at hn2
        have hxs : xs = [] := List.eq_nil_of_length_eq_zero (by omega)
        subst hxs
        have : n1 = 0 := by omega
        subst this
        refine (Tryd.slices_Equal_int_empty _ A2 c1 n2 c2 w (by omega)).mono ?_
        rintro e w' ⟨rfl, rfl⟩
        exact ⟨ret_bool (by rw [decide_eq_true (by omega)]; rfl), Below.refl _ _⟩
      · refine (Tryd.slices_Equal_int b1 o1 n1 c1 b2 o2 n2 c2 xs ys w (by omega) (by omega) (by omega) (by omega) (fun j hj => ?_) (fun j hj => ?_)).mono ?_
        · exact h1.int (by rw [List.getD, List.getElem?_eq_getElem hj]; rfl)
        · exact h2.int (by rw [List.getD, List.getElem?_eq_getElem hj]; rfl)
        · rintro e w' ⟨rfl, q, rfl⟩
          refine ⟨ret_bool ?_, below_drewN (Below.refl _ _) q⟩
          rw [hn1, hn2, List.take_length, List.take_length]
          by_cases h : xs = ys <;> simp [h]
  · refine (Tryd.slices_Equal_int_lens A1 A2 n1 c1 n2 c2 w hlen).mono ?_
    rintro e w' ⟨rfl, rfl⟩
    exact ⟨ret_bool (by rw [decide_eq_false (fun h => hlen (by rw [hn1, hn2, h]))]), Below.refl _ _⟩
theorem rd_two (w : World) (x y : Int) (b : Nat) (hb : w.heap.size = b) : Rd intE (w.alloc (.cells #[.int .i64 x, .int .i64 y] 3)).heap.size (w.alloc (.cells #[.int .i64 x, .int .i64 y] 3)) (some ⟨b, 0, none⟩) [x, y] := by
  subst hb
  refine .inr ⟨w.heap.size, 0, rfl, by simp, fun i z hz j u hu => ?_⟩
  match i, j, hz, hu with
  | 0, 0, hz, hu => simp at hz; subst hz; simp [intE] at hu; subst hu; simp [intE]
  | 1, 0, hz, hu => simp at hz; subst hz; simp [intE] at hu; subst hu; simp [intE]
set_option maxHeartbeats 4000000 in
theorem wakes_any (w : World) (hL : LaidAt w) : Calls Tryd.prog 8 #[] w fun e w' => e = .returned (.bool true) ∧ Ext w w' := by
  have r1 : lev ⟨#[50, 46, 57, 57]⟩ = 3 := by decide +kernel
  have r2 : chk (idxT ⟨#[50, 46, 57, 57]⟩) = 0 := by decide +kernel
  have r3 : guaN ⟨#[109, 114, 32, 109, 119]⟩ = 6 := by decide +kernel
  have r4 : guaE ⟨#[109, 114, 32, 109, 119]⟩ = 0 := by decide +kernel
  have r5 : eachE [1, 3] [2, 2] = 0 := by decide +kernel
  have r6 : eachL dMax [1, 3] [2, 2] = [2, 3] := by decide +kernel
  have r7 : isBelow [1, 2] [2, 2] = true := by decide +kernel
  have r8 : eachE [1, 2] [2, 2] = 0 := by decide +kernel
  replace r1 := hide r1
  replace r2 := hide r2
  replace r3 := hide r3
  replace r4 := hide r4
  replace r5 := hide r5
  replace r6 := hide r6
  replace r7 := hide r7
  replace r8 := hide r8
  replace hL := hide hL
  go_enter Tryd.func8, Tryd.ntmps8
  go_wp2_with fail
  refine (read_any _ _ hL.out).mono ?_
  rintro e w1 ⟨rfl, rfl⟩
  rw [r1.out, r2.out]
  go_wp2_with fail
  refine (guar_any _ _ hL.out).mono ?_
  rintro e w2 ⟨rfl, hE2⟩
  rw [r3.out, r4.out]
  have a1 := rd_two w2 1 3 w2.heap.size rfl
  have a2 := rd_two (w2.alloc (.cells #[.int .i64 1, .int .i64 3] 3)) 2 2 (w2.heap.size + 1) (by simp)
  have hj := hide (join_any _ _ 2 2 2 2 [1, 3] [2, 2] _ (a1.ext ((Below.refl _ _).alloc (Nat.le_refl _) (.cells #[.int .i64 2, .int .i64 2] 3))) a2 rfl rfl (by decide) (by decide))
  clear a1 a2
  have hB2 := hE2
  go_wp2_with fail
  refine hj.out.mono ?_
  rintro e w3 ⟨v, rfl, hO, hE3⟩
  rw [r5.out]
  rw [r6.out] at hO
  obtain ⟨A, c, rfl, hr, -, -⟩ := hO.rd
  clear hj hO
  have hB3 : Ext w1 w3 := by
    have h1 : Ext w2 ((w2.alloc (.cells #[.int .i64 1, .int .i64 3] 3)).alloc (.cells #[.int .i64 2, .int .i64 2] 3)) := ((Below.refl _ _).alloc (Nat.le_refl _) _).alloc (by simp) _
    exact hB2.trans ((h1.trans (hE3.mono h1.size)).mono hB2.size)
  replace hr := hide hr
  have a3 := rd_two w3 1 2 w3.heap.size rfl
  have a4 := rd_two (w3.alloc (.cells #[.int .i64 1, .int .i64 2] 3)) 2 2 (w3.heap.size + 1) (by simp)
  have hbl := hide (below_any _ _ 2 2 2 2 [1, 2] [2, 2] _ (a3.ext ((Below.refl _ _).alloc (Nat.le_refl _) (.cells #[.int .i64 2, .int .i64 2] 3))) a4 rfl rfl (by decide) (by decide))
  clear a3 a4 hE3 hE2 hB2
  rw [show ([2, 3] : List Int).length = 2 from rfl]
  go_wp2_with fail
  refine hbl.out.mono ?_
  rintro e w4 ⟨rfl, hE4⟩
  rw [r7.out, r8.out]
  have hE34 : Ext w3 w4 := by
    have h1 : Ext w3 ((w3.alloc (.cells #[.int .i64 1, .int .i64 2] 3)).alloc (.cells #[.int .i64 2, .int .i64 2] 3)) := ((Below.refl _ _).alloc (Nat.le_refl _) _).alloc (by simp) _
    exact h1.trans (hE4.mono h1.size)
  have hr4 := hr.out.ext hE34
  have hB4 := hB3.trans (hE34.mono hB3.size)
  clear hbl hE4 hE34 hB3 hr
  have a5 := rd_two w4 2 3 w4.heap.size rfl
  have heq := hide (equal_any A _ 2 c 2 2 [2, 3] [2, 3] _ (hr4.ext ((Below.refl _ _).alloc (Nat.le_refl _) (.cells #[.int .i64 2, .int .i64 3] 3))) a5 rfl rfl (by decide) (by decide))
  clear a5 hr4
  go_wp2_with fail
  refine heq.out.mono ?_
  rintro e w5 ⟨rfl, hE5⟩
  simp only [decide_true]
  go_wp2
  go_ret
  have h1 : Ext w4 (w4.alloc (.cells #[.int .i64 2, .int .i64 3] 3)) := (Below.refl _ _).alloc (Nat.le_refl _) _
  exact ⟨rfl, hB4.trans ((h1.trans (hE5.mono h1.size)).mono hB4.size)⟩
end Go.Proofs.YtbmcbbcgambflaaDoor
