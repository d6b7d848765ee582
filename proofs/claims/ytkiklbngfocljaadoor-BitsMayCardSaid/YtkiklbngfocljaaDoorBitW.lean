/- Sets of numbers: does the layer do anything? -/
import Derived.Test.YtkiklbngfocljaaDoorBitU
namespace Go.Proofs.YtkiklbngfocljaaDoor
open Go.RowKit

theorem rd_lits {α : Type} (E : El α) (e : TypeId) (w : World) (xs : List α) (cs : Array Value) (hc : cs.toList = E.row xs) (hne : xs ≠ []) :
    Rd E (w.alloc (.cells cs e)).heap.size (w.alloc (.cells cs e)) (some ⟨w.heap.size, 0, none⟩) xs := by
  refine .inr ⟨w.heap.size, 0, rfl, by simp, fun i z hz j u hu => ?_⟩
  have h1 := E.row_get xs i z hz j u hu
  rw [show (0 + i * E.sz + j) = i * E.sz + j by omega]
  unfold World.cell?
  rw [heap_alloc_new]
  rw [← hc] at h1
  simpa using h1
set_option maxRecDepth 100000 in
set_option maxHeartbeats 4000000 in
theorem wakes_any (w : World) (hL : LaidT w) : Calls Tryd.prog 9 #[] w fun e w' => e = .returned (.bool true) ∧ Ext w w' := by
  have r1 : ofE [3, 64, 3] = 0 := by decide +kernel
  have r2 : ofS [3, 64, 3] = [8, 1] := by decide +kernel
  have r3 : ofE [10000] = 2 := by decide +kernel
  have r4 : nextN [8, 1] 4 = 64 := by decide +kernel
  have r5 : nextB [8, 1] 4 = true := by decide +kernel
  have r6 : natsI (nums (ofW [8, 1])) = [3, 64] := by decide +kernel
  have r7 : chkW [1, 0] = 140 := by decide +kernel
  have f81 : Fit [8, 1] := by decide
  have f10 : Fit [1, 0] := by decide
  have a1 := hide (rd_lits intE 3 w [3, 64, 3] #[.int .i64 3, .int .i64 64, .int .i64 3] rfl (by simp))
  have hE1 : Ext w (w.alloc (.cells #[.int .i64 3, .int .i64 64, .int .i64 3] 3)) := (Below.refl _ _).alloc (Nat.le_refl _) _
  replace r1 := hide r1
  replace r2 := hide r2
  replace r3 := hide r3
  replace r4 := hide r4
  replace r5 := hide r5
  replace r6 := hide r6
  replace r7 := hide r7
  replace hL := hide (hL.ext hE1)
  go_enter Tryd.func9, Tryd.ntmps9
  go_wp2_with fail
  refine (ofI_any _ 3 3 [3, 64, 3] _ a1.out rfl (by decide)).mono ?_
  rintro e w1 ⟨v, rfl, hO, hE⟩
  rw [r1.out]
  rw [r2.out] at hO
  have hB := hE1.trans (hE.mono hE1.size)
  replace hL := hide (hL.out.ext hE)
  obtain ⟨A1, c1, rfl, hr1, -, -⟩ := hO.rd
  have hlen : ([8, 1] : List Nat).length = 2 := rfl
  rw [hlen]
  clear hO hE hE1 a1 hlen
  replace hr1 := hide hr1
  go_wp2_with fail
  obtain ⟨w2, hw2⟩ : ∃ w2, w2 = w1.alloc (.cells #[.slice A1 2 c1] 24) := ⟨_, rfl⟩
  rw [← hw2]
  have hbx : Hid (Box w2 w1.heap.size 24 (.slice A1 2 c1)) := hide (by rw [hw2]; exact Box.new _ _ _)
  have hE2 : Ext w1 w2 := by rw [hw2]; exact (Below.refl _ _).alloc (Nat.le_refl _) _
  have hsz2 : w2.heap.size = w1.heap.size + 1 := by rw [hw2]; simp
  rw [← hsz2]
  clear hw2 hsz2
  replace hr1 := hide (hr1.out.ext hE2)
  replace hL := hide (hL.out.ext hE2)
  replace hB := hB.trans (hE2.mono hB.size)
  clear hE2
  generalize w1.heap.size = b1 at *
  have a2 := rd_lits intE 3 w2 [10000] #[.int .i64 10000] rfl (by simp)
  have hE3 : Ext w2 (w2.alloc (.cells #[.int .i64 10000] 3)) := (Below.refl _ _).alloc (Nat.le_refl _) _
  refine (ofI_any _ 1 1 [10000] _ a2 rfl (by decide)).mono ?_
  rintro e w3 ⟨v, rfl, hO, hE⟩
  rw [r3.out]
  obtain ⟨A2, c2, rfl, -, -, -⟩ := hO.rd
  clear hO
  replace hE := hE3.trans (hE.mono hE3.size)
  replace hr1 := hide (hr1.out.ext hE)
  replace hbx := hide (hbx.out.ext hE)
  replace hB := hB.trans (hE.mono hB.size)
  replace hL := hide (hL.out.ext hE)
  have hcb := hbx.out.cell
  have hsb := hbx.out.lt
  clear a2 hE3 hE
  go_wp2_with fail
  have hE4 : Ext w3 (w3.alloc (.cells #[.slice A2 (ofS [10000]).length c2] 24)) := (Below.refl _ _).alloc (Nat.le_refl _) _
  refine (next_any A1 2 c1 [8, 1] 4 _ (hr1.out.ext hE4) rfl (by decide) f81 (hL.out.ext hE4)).mono ?_
  rintro e w4 ⟨rfl, hE⟩
  rw [r4.out, r5.out]
  replace hE := hE4.trans (hE.mono hE4.size)
  replace hr1 := hide (hr1.out.ext hE)
  replace hbx := hide (hbx.out.ext hE)
  replace hB := hB.trans (hE.mono hB.size)
  replace hL := hide (hL.out.ext hE)
  have hcb := hbx.out.cell
  have hsb := hbx.out.lt
  clear hE hE4
  have a3 := hide (rd_lits wE 43 w4 [8, 1] #[.int .u64 8, .int .u64 1] rfl (by simp))
  have hE5 : Ext w4 (w4.alloc (.cells #[.int .u64 8, .int .u64 1] 43)) := (Below.refl _ _).alloc (Nat.le_refl _) _
  go_wp2_with fail
  refine (equalW_any A1 (some ⟨w4.heap.size, 0, none⟩) 2 c1 2 2 [8, 1] [8, 1] _ (hr1.out.ext hE5) a3.out rfl rfl (by decide)).mono ?_
  rintro e w5 ⟨rfl, hE⟩
  rw [decide_eq_true rfl]
  replace hE := hE5.trans (hE.mono hE5.size)
  replace hr1 := hide (hr1.out.ext hE)
  replace hbx := hide (hbx.out.ext hE)
  replace hB := hB.trans (hE.mono hB.size)
  replace hL := hide (hL.out.ext hE)
  have hcb := hbx.out.cell
  have hsb := hbx.out.lt
  clear hE hE5 a3
  go_wp2_with fail
  refine (list_any A1 2 c1 [8, 1] _ hr1.out rfl (by decide) f81 hL.out).mono ?_
  rintro e w6 ⟨v6, rfl, hO, hE⟩
  rw [r6.out] at hO
  obtain ⟨A6, c6, rfl, hr6, -, -⟩ := hO.rd
  replace hr1 := hide (hr1.out.ext hE)
  replace hbx := hide (hbx.out.ext hE)
  replace hB := hB.trans (hE.mono hB.size)
  replace hL := hide (hL.out.ext hE)
  have hcb := hbx.out.cell
  have hsb := hbx.out.lt
  clear hE hO
  have a4 := hide (rd_lits intE 3 w6 [3, 64] #[.int .i64 3, .int .i64 64] rfl (by simp))
  have hE7 : Ext w6 (w6.alloc (.cells #[.int .i64 3, .int .i64 64] 3)) := (Below.refl _ _).alloc (Nat.le_refl _) _
  replace hr6 := hide (hr6.ext hE7)
  go_wp2_with fail
  refine (equalI_any A6 (some ⟨w6.heap.size, 0, none⟩) 2 c6 2 2 [3, 64] [3, 64] _ hr6.out a4.out rfl rfl (by decide)).mono ?_
  rintro e w7 ⟨rfl, hE⟩
  rw [decide_eq_true rfl]
  replace hE := hE7.trans (hE.mono hE7.size)
  replace hbx := hide (hbx.out.ext hE)
  replace hB := hB.trans (hE.mono hB.size)
  replace hL := hide (hL.out.ext hE)
  have hcb := hbx.out.cell
  have hsb := hbx.out.lt
  clear hE hE7 a4 hr6
  have a5 := hide (rd_lits wE 43 w7 [1, 0] #[.int .u64 1, .int .u64 0] rfl (by simp))
  have hE8 : Ext w7 (w7.alloc (.cells #[.int .u64 1, .int .u64 0] 43)) := (Below.refl _ _).alloc (Nat.le_refl _) _
  go_wp2_with fail
  refine (check_any (some ⟨w7.heap.size, 0, none⟩) 2 2 [1, 0] _ a5.out rfl (by decide) f10).mono ?_
  rintro e w8 ⟨rfl, hE⟩
  rw [r7.out]
  replace hE := hE8.trans (hE.mono hE8.size)
  replace hB := hB.trans (hE.mono hB.size)
  clear hE
  go_wp2
  go_ret
  exact ⟨rfl, hB⟩
end Go.Proofs.YtkiklbngfocljaaDoor
