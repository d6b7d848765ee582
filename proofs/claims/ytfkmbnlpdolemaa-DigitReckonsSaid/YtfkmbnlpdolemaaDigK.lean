/- DigitReckons: sums and products. -/
import Derived.Test.YtfkmbnlpdolemaaDigWf
import Derived.Test.YtfkmbnlpdolemaaTree
namespace Go.Proofs.Ytfkmbnlpdolemaa
open Go.RowKit Go.Lib

theorem mid_add {a b : Int} (ha : in64 a) (hb : in64 b) : mid (a + b) := by unfold in64 at ha hb; unfold mid; omega
theorem mid_mul {a b : Int} (ha : in64 a) (hb : in64 b) : mid (a * b) := by
  have h1 : (a * b).natAbs = a.natAbs * b.natAbs := Int.natAbs_mul a b
  have h2 : a.natAbs * b.natAbs ≤ 9223372036854775808 * 9223372036854775808 := Nat.mul_le_mul (by unfold in64 at ha; omega) (by unfold in64 at hb; omega)
  unfold mid
  omega
theorem mid_sum {xs : List Int} (h : ∀ x ∈ xs, in64 x) (hl : xs.length ≤ 12) : mid xs.sum := by
  have := sum_small xs h
  unfold mid
  omega
theorem mid_take {xs : List Int} (h : ∀ x ∈ xs, in64 x) (hl : xs.length ≤ 12) (k : Nat) : mid (xs.take k).sum :=
  mid_sum (fun x hx => h x (List.mem_of_mem_take hx)) (by rw [List.length_take]; omega)
theorem lim_null (j : Nat) (hj : j < 5) : lim 0 j = 0 := by
  have : j = 0 ∨ j = 1 ∨ j = 2 ∨ j = 3 ∨ j = 4 := by omega
  rcases this with rfl | rfl | rfl | rfl | rfl <;> decide
@[go_sem] theorem build_wide (w : World) : (Instr.build 42 #[]).run Try.prog w = .ok (.agg #[.int .u64 0, .int .u64 0, .int .u64 0, .int .u64 0, .int .u64 0]) w := run_build w 42 _ _ (by kernel_rfl)

theorem ArrAt.all {w : World} {b : Nat} {o : Nat → Int} (h : ArrAt w b o) (T : Int) :
    ArrAt (((((w.setCell ⟨b, 0, none⟩ (.int .u64 (lim T 0))).setCell ⟨b, 1, none⟩ (.int .u64 (lim T 1))).setCell ⟨b, 2, none⟩ (.int .u64 (lim T 2))).setCell ⟨b, 3, none⟩ (.int .u64 (lim T 3))).setCell ⟨b, 4, none⟩ (.int .u64 (lim T 4))) b (fun j => lim T j) := by
  refine (((((h.put (k := 0) (by omega) _).put (k := 1) (by omega) _).put (k := 2) (by omega) _).put (k := 3) (by omega) _).put (k := 4) (by omega) _).congr fun j hj => ?_
  have : j = 0 ∨ j = 1 ∨ j = 2 ∨ j = 3 ∨ j = 4 := by omega
  rcases this with rfl | rfl | rfl | rfl | rfl <;> rfl
set_option maxRecDepth 100000 in
set_option maxHeartbeats 4000000 in
theorem digitReckons_any (A : Option Addr) (n c : Nat) (xs : List Int) (w : World) (hn : n = xs.length) (h : Rd intE w.heap.size w A xs) (hc : n ≤ c) (hx : ∀ x ∈ xs, in64 x) :
    Calls Try.prog 6 #[.slice A n c] w fun e w' => e = .returned (.bool true) ∧ Ext w w' := by
  replace hn := hide hn
  replace h := hide h
  go_enter Try.func6, Try.ntmps6
  go_wp2_with fail
  refine (wakes_any _).mono ?_
  rintro e w1 ⟨rfl, hE1⟩
  obtain ⟨as_, has⟩ : ∃ l, l = xs.take 12 := ⟨_, rfl⟩
  have hax : ∀ x ∈ as_, in64 x := fun x hxm => hx x (List.mem_of_mem_take (by rw [← has]; exact hxm))
  have hm12 : as_.length ≤ 12 := by rw [has, List.length_take]; omega
  have hmin : min n 12 = as_.length := by rw [has, List.length_take, ← hn.out, Nat.min_comm]
  have rd := (h.out.ext hE1).take 12
  rw [← has] at rd
  clear has hx
  obtain ⟨m, hm⟩ : ∃ m, m = as_.length := ⟨_, rfl⟩
  rw [← hm] at hm12 hmin
  have hmc : m ≤ c := by omega
  replace hm := hide hm
  replace rd := hide rd
  replace hax := hide hax
  by_cases hn12 : n ≤ 12
  · obtain rfl : m = n := by omega
    clear hmin
    go_wp2
    go_loopw [30] (fun i wr => ∃ k : Nat, k ≤ m ∧ i = .int .i64 k ∧ Hid (ArrAt wr w1.heap.size (fun x => lim (as_.take k).sum x)) ∧ Ext w1 wr) (fun i _ => m - (intOf i).toNat)
    case atStart =>
      refine ⟨0, Nat.zero_le _, rfl, hide ?_, (Below.refl _ _).alloc (Nat.le_refl _) _⟩
      exact (arr_new w1 _ rfl 0 0 0 0 0 _ (o := fun _ => 0) rfl rfl rfl rfl rfl).congr fun j hj => by simpa using lim_null j hj
    case round =>
      obtain ⟨k, hk, rfl, hA, hB⟩ := hrel
      obtain ⟨hcc, hff⟩ := bcell hB
      have hsz := hB.size
      by_cases hlt : k < m
      · obtain ⟨b, off, rfl, hra⟩ := rd.out.at_ (i := k) (by rw [← hm.out]; exact hlt)
        have hb1 := hra.1
        obtain ⟨p1, hp⟩ := get_some (xs := as_) (i := k) (by rw [← hm.out]; exact hlt)
        have hx1 := hra.int hp
        have hp1i := hide (hax.out _ (List.mem_of_getElem? hp))
        have hS1 : Hid ((as_.take k).sum + p1 = (as_.take (k + 1)).sum) := hide (take_sum hp).symm
        obtain ⟨S, hS⟩ : ∃ S, S = (as_.take k).sum := ⟨_, rfl⟩
        rw [← hS] at hA hS1
        clear hS hp
        replace hra := hide hra
        have hA0 := hA.out
        have hal := hA0.2
        have c0 : wr.cell? ⟨w1.heap.size, 0, none⟩ = some (.int .u64 (lim S 0)) := (hA0.1 0 (by omega)).1
        have c1 : wr.cell? ⟨w1.heap.size, 1, none⟩ = some (.int .u64 (lim S 1)) := (hA0.1 1 (by omega)).1
        have c2 : wr.cell? ⟨w1.heap.size, 2, none⟩ = some (.int .u64 (lim S 2)) := (hA0.1 2 (by omega)).1
        have c3 : wr.cell? ⟨w1.heap.size, 3, none⟩ = some (.int .u64 (lim S 3)) := (hA0.1 3 (by omega)).1
        have c4 : wr.cell? ⟨w1.heap.size, 4, none⟩ = some (.int .u64 (lim S 4)) := (hA0.1 4 (by omega)).1
        clear hA0
        go_wp2
        refine wp_region_tree (fun _ => True) (.q 1 (.f 0 (.w 2 (.w 3 (.w 4 .nil))) 2 (.w 0 (.w 3 (.w 4 .nil))))) (by kernel_rfl) (by kernel_rfl) (by kernel_rfl) (by kernel_rfl) (fun _ _ d _ _ h => by cases d <;> exact h) trivial ?_
        iterate 1
          apply tree_q rfl rfl
          · intro W _
            go_simp
            try exact rfl
          simp only [Act.put, List.setIfInBounds_toArray, List.set_cons_zero, List.set_cons_succ]
        refine tree_f ?_ ?_
        · refine tree_op rfl rfl (fun K hK => ?_)
          go_simp
          refine hK _ _ trivial ?_
          clear hK K
          try simp only [Act.put, List.setIfInBounds_toArray, List.set_cons_zero, List.set_cons_succ]
          refine tree_w rfl rfl (fun K hK => ?_)
          go_simp
          refine (of_any p1 hp1i.out _).mono ?_
          rintro e w2 ⟨rfl, hE2⟩
          refine hK _ _ trivial ?_
          clear hK K
          try simp only [Act.put, List.setIfInBounds_toArray, List.set_cons_zero, List.set_cons_succ]
          refine tree_w rfl rfl (fun K hK => ?_)
          go_simp
          refine (plus_any S p1 _).mono ?_
          rintro e w3 ⟨rfl, hE3⟩
          refine hK _ _ trivial ?_
          clear hK K
          try simp only [Act.put, List.setIfInBounds_toArray, List.set_cons_zero, List.set_cons_succ]
          have hA3 := (hA.out.drew.ext hE2).ext hE3
          have hB3 := hB.drew.trans ((hE2.trans (hE3.mono hE2.size)).mono hsz)
          clear hA hB hcc hff hsz hE2 hE3 c0 c1 c2 c3 c4 hal
          obtain ⟨q1, q2, q3, q4, q5⟩ := (⟨rfl, rfl, rfl, rfl, rfl⟩ : (0 : Nat) = 0 ∧ (1 : Nat) = 1 ∧ (2 : Nat) = 2 ∧ (3 : Nat) = 3 ∧ (4 : Nat) = 4)
          clear q1 q2 q3 q4 q5
          have f0 : w3.frozen? ⟨w1.heap.size, 0, none⟩ = false := (hA3.1 0 (by omega)).2
          have f1 : w3.frozen? ⟨w1.heap.size, 1, none⟩ = false := (hA3.1 1 (by omega)).2
          have f2 : w3.frozen? ⟨w1.heap.size, 2, none⟩ = false := (hA3.1 2 (by omega)).2
          have f3 : w3.frozen? ⟨w1.heap.size, 3, none⟩ = false := (hA3.1 3 (by omega)).2
          have f4 : w3.frozen? ⟨w1.heap.size, 4, none⟩ = false := (hA3.1 4 (by omega)).2
          have z0 : w3.cell? ⟨w1.heap.size, 0, none⟩ = some (.int .u64 (lim S 0)) := (hA3.1 0 (by omega)).1
          have z1 : w3.cell? ⟨w1.heap.size, 1, none⟩ = some (.int .u64 (lim S 1)) := (hA3.1 1 (by omega)).1
          have z2 : w3.cell? ⟨w1.heap.size, 2, none⟩ = some (.int .u64 (lim S 2)) := (hA3.1 2 (by omega)).1
          have z3 : w3.cell? ⟨w1.heap.size, 3, none⟩ = some (.int .u64 (lim S 3)) := (hA3.1 3 (by omega)).1
          have z4 : w3.cell? ⟨w1.heap.size, 4, none⟩ = some (.int .u64 (lim S 4)) := (hA3.1 4 (by omega)).1
          have hl3 := hA3.2
          refine tree_w rfl rfl (fun K hK => ?_)
          unfold wV
          go_simp
          refine hK _ _ trivial ?_
          clear hK K
          try simp only [Act.put, List.setIfInBounds_toArray, List.set_cons_zero, List.set_cons_succ]
          refine tree_nil ?_
          have hA4 := hide (hA3.all (S + p1))
          have hB4 : Ext w1 (((((w3.setCell ⟨w1.heap.size, 0, none⟩ (.int .u64 (lim (S + p1) 0))).setCell ⟨w1.heap.size, 1, none⟩ (.int .u64 (lim (S + p1) 1))).setCell ⟨w1.heap.size, 2, none⟩ (.int .u64 (lim (S + p1) 2))).setCell ⟨w1.heap.size, 3, none⟩ (.int .u64 (lim (S + p1) 3))).setCell ⟨w1.heap.size, 4, none⟩ (.int .u64 (lim (S + p1) 4))) := ((((hB3.setCell (Nat.le_refl _) _).setCell (Nat.le_refl _) _).setCell (Nat.le_refl _) _).setCell (Nat.le_refl _) _).setCell (Nat.le_refl _) _
          generalize (((((w3.setCell ⟨w1.heap.size, 0, none⟩ (.int .u64 (lim (S + p1) 0))).setCell ⟨w1.heap.size, 1, none⟩ (.int .u64 (lim (S + p1) 1))).setCell ⟨w1.heap.size, 2, none⟩ (.int .u64 (lim (S + p1) 2))).setCell ⟨w1.heap.size, 3, none⟩ (.int .u64 (lim (S + p1) 3))).setCell ⟨w1.heap.size, 4, none⟩ (.int .u64 (lim (S + p1) 4))) = w4 at *
          clear f0 f1 f2 f3 f4 z0 z1 z2 z3 z4 hl3 hA3 hB3
          rw [hS1.out] at hA4
          go_wp2
          go_loopw [40] (fun i wr => ∃ j : Nat, j ≤ m ∧ i = .int .i64 j ∧ Hid (ArrAt wr w1.heap.size (fun x => lim (as_.take (k + 1)).sum x)) ∧ Ext w1 wr) (fun i _ => m - (intOf i).toNat)
          case atStart => exact ⟨0, Nat.zero_le _, rfl, hA4, hB4⟩
          case round =>
            obtain ⟨j, hj, rfl, hA, hB⟩ := hrel
            obtain ⟨hcc, hff⟩ := bcell hB
            have hsz := hB.size
            by_cases hlt : j < m
            · obtain ⟨p2, hp2⟩ := get_some (xs := as_) (i := j) (by rw [← hm.out]; exact hlt)
              have hx2 := hra.out.int hp2
              have hp2i := hide (hax.out _ (List.mem_of_getElem? hp2))
              clear hp2
              clear hA4 hB4
              go_wp2_with fail
              refine (sum2_any p1 p2 hp1i.out hp2i.out _).mono ?_
              rintro e y0 ⟨rfl, hY⟩
              replace hB := hB.trans (hY.mono hB.size)
              replace hA := hide (hA.out.ext hY)
              clear hY
              go_wp2_with fail
              refine (of_any p1 hp1i.out _).mono ?_
              rintro e y1 ⟨rfl, hY⟩
              replace hB := hB.trans (hY.mono hB.size)
              replace hA := hide (hA.out.ext hY)
              clear hY
              go_wp2_with fail
              refine (of_any p2 hp2i.out _).mono ?_
              rintro e y2 ⟨rfl, hY⟩
              replace hB := hB.trans (hY.mono hB.size)
              replace hA := hide (hA.out.ext hY)
              clear hY
              go_wp2_with fail
              refine (plus_any p1 p2 _).mono ?_
              rintro e y3 ⟨rfl, hY⟩
              replace hB := hB.trans (hY.mono hB.size)
              replace hA := hide (hA.out.ext hY)
              clear hY
              go_wp2_with fail
              refine (wfits_any (p1 + p2) (mid_add hp1i.out hp2i.out) _).mono ?_
              rintro e y4 ⟨rfl, hY⟩
              replace hB := hB.trans (hY.mono hB.size)
              replace hA := hide (hA.out.ext hY)
              clear hY
              go_wp2_with fail
              refine (mul_any p1 p2 hp1i.out hp2i.out _).mono ?_
              rintro e y5 ⟨rfl, hY⟩
              replace hB := hB.trans (hY.mono hB.size)
              replace hA := hide (hA.out.ext hY)
              clear hY
              go_wp2_with fail
              refine (of_any p1 hp1i.out _).mono ?_
              rintro e y6 ⟨rfl, hY⟩
              replace hB := hB.trans (hY.mono hB.size)
              replace hA := hide (hA.out.ext hY)
              clear hY
              go_wp2_with fail
              refine (of_any p2 hp2i.out _).mono ?_
              rintro e y7 ⟨rfl, hY⟩
              replace hB := hB.trans (hY.mono hB.size)
              replace hA := hide (hA.out.ext hY)
              clear hY
              go_wp2_with fail
              refine (times_any p1 p2 _).mono ?_
              rintro e y8 ⟨rfl, hY⟩
              replace hB := hB.trans (hY.mono hB.size)
              replace hA := hide (hA.out.ext hY)
              clear hY
              go_wp2_with fail
              refine (wfits_any (p1 * p2) (mid_mul hp1i.out hp2i.out) _).mono ?_
              rintro e y9 ⟨rfl, hY⟩
              replace hB := hB.trans (hY.mono hB.size)
              replace hA := hide (hA.out.ext hY)
              clear hY
              go_wp2
              refine ⟨?_, ?_⟩
              · first
                  | exact ⟨j + 1, by omega, by go_num, hA, hB⟩
                  | ((repeat apply Exists.intro); exact ⟨⟨j + 1, by omega, by go_num, hA, hB⟩, rfl⟩)
              · first | (simp [intOf, lenV]; omega) | (simp [intOf]; omega)
            · obtain hjm : j = m := by omega
              clear hcc hff hsz
              subst hjm
              go_wp2
              refine ⟨?_, ?_⟩
              · first
                  | exact ⟨k + 1, by omega, by go_num, hA, hB⟩
                  | ((repeat apply Exists.intro); exact ⟨⟨k + 1, by omega, by go_num, hA, hB⟩, rfl⟩)
              · first | (simp [intOf, lenV]; omega) | (simp [intOf]; omega)
        · refine tree_op rfl rfl (fun K hK => ?_)
          go_simp
          refine (of_any p1 hp1i.out _).mono ?_
          rintro e w2 ⟨rfl, hE2⟩
          have hA2 := hA.out.drew.ext hE2
          have hal2 := hA2.2
          have d0 : w2.cell? ⟨w1.heap.size, 0, none⟩ = some (.int .u64 (lim S 0)) := (hA2.1 0 (by omega)).1
          have d1 : w2.cell? ⟨w1.heap.size, 1, none⟩ = some (.int .u64 (lim S 1)) := (hA2.1 1 (by omega)).1
          have d2 : w2.cell? ⟨w1.heap.size, 2, none⟩ = some (.int .u64 (lim S 2)) := (hA2.1 2 (by omega)).1
          have d3 : w2.cell? ⟨w1.heap.size, 3, none⟩ = some (.int .u64 (lim S 3)) := (hA2.1 3 (by omega)).1
          have d4 : w2.cell? ⟨w1.heap.size, 4, none⟩ = some (.int .u64 (lim S 4)) := (hA2.1 4 (by omega)).1
          refine hK _ _ trivial ?_
          clear hK K
          try simp only [Act.put, List.setIfInBounds_toArray, List.set_cons_zero, List.set_cons_succ]
          clear hA2
          refine tree_w rfl rfl (fun K hK => ?_)
          go_simp
          refine hK _ _ trivial ?_
          clear hK K
          try simp only [Act.put, List.setIfInBounds_toArray, List.set_cons_zero, List.set_cons_succ]
          refine tree_w rfl rfl (fun K hK => ?_)
          go_simp
          refine (plus_any S p1 _).mono ?_
          rintro e w3 ⟨rfl, hE3⟩
          refine hK _ _ trivial ?_
          clear hK K
          try simp only [Act.put, List.setIfInBounds_toArray, List.set_cons_zero, List.set_cons_succ]
          have hA3 := (hA.out.drew.ext hE2).ext hE3
          have hB3 := hB.drew.trans ((hE2.trans (hE3.mono hE2.size)).mono hsz)
          clear hA hB hcc hff hsz hE2 hE3 c0 c1 c2 c3 c4 hal d0 d1 d2 d3 d4 hal2
          obtain ⟨q1, q2, q3, q4, q5⟩ := (⟨rfl, rfl, rfl, rfl, rfl⟩ : (0 : Nat) = 0 ∧ (1 : Nat) = 1 ∧ (2 : Nat) = 2 ∧ (3 : Nat) = 3 ∧ (4 : Nat) = 4)
          clear q1 q2 q3 q4 q5
          have f0 : w3.frozen? ⟨w1.heap.size, 0, none⟩ = false := (hA3.1 0 (by omega)).2
          have f1 : w3.frozen? ⟨w1.heap.size, 1, none⟩ = false := (hA3.1 1 (by omega)).2
          have f2 : w3.frozen? ⟨w1.heap.size, 2, none⟩ = false := (hA3.1 2 (by omega)).2
          have f3 : w3.frozen? ⟨w1.heap.size, 3, none⟩ = false := (hA3.1 3 (by omega)).2
          have f4 : w3.frozen? ⟨w1.heap.size, 4, none⟩ = false := (hA3.1 4 (by omega)).2
          have z0 : w3.cell? ⟨w1.heap.size, 0, none⟩ = some (.int .u64 (lim S 0)) := (hA3.1 0 (by omega)).1
          have z1 : w3.cell? ⟨w1.heap.size, 1, none⟩ = some (.int .u64 (lim S 1)) := (hA3.1 1 (by omega)).1
          have z2 : w3.cell? ⟨w1.heap.size, 2, none⟩ = some (.int .u64 (lim S 2)) := (hA3.1 2 (by omega)).1
          have z3 : w3.cell? ⟨w1.heap.size, 3, none⟩ = some (.int .u64 (lim S 3)) := (hA3.1 3 (by omega)).1
          have z4 : w3.cell? ⟨w1.heap.size, 4, none⟩ = some (.int .u64 (lim S 4)) := (hA3.1 4 (by omega)).1
          have hl3 := hA3.2
          refine tree_w rfl rfl (fun K hK => ?_)
          unfold wV
          go_simp
          refine hK _ _ trivial ?_
          clear hK K
          try simp only [Act.put, List.setIfInBounds_toArray, List.set_cons_zero, List.set_cons_succ]
          refine tree_nil ?_
          have hA4 := hide (hA3.all (S + p1))
          have hB4 : Ext w1 (((((w3.setCell ⟨w1.heap.size, 0, none⟩ (.int .u64 (lim (S + p1) 0))).setCell ⟨w1.heap.size, 1, none⟩ (.int .u64 (lim (S + p1) 1))).setCell ⟨w1.heap.size, 2, none⟩ (.int .u64 (lim (S + p1) 2))).setCell ⟨w1.heap.size, 3, none⟩ (.int .u64 (lim (S + p1) 3))).setCell ⟨w1.heap.size, 4, none⟩ (.int .u64 (lim (S + p1) 4))) := ((((hB3.setCell (Nat.le_refl _) _).setCell (Nat.le_refl _) _).setCell (Nat.le_refl _) _).setCell (Nat.le_refl _) _).setCell (Nat.le_refl _) _
          generalize (((((w3.setCell ⟨w1.heap.size, 0, none⟩ (.int .u64 (lim (S + p1) 0))).setCell ⟨w1.heap.size, 1, none⟩ (.int .u64 (lim (S + p1) 1))).setCell ⟨w1.heap.size, 2, none⟩ (.int .u64 (lim (S + p1) 2))).setCell ⟨w1.heap.size, 3, none⟩ (.int .u64 (lim (S + p1) 3))).setCell ⟨w1.heap.size, 4, none⟩ (.int .u64 (lim (S + p1) 4))) = w4 at *
          clear f0 f1 f2 f3 f4 z0 z1 z2 z3 z4 hl3 hA3 hB3
          rw [hS1.out] at hA4
          go_wp2
          go_loopw [40] (fun i wr => ∃ j : Nat, j ≤ m ∧ i = .int .i64 j ∧ Hid (ArrAt wr w1.heap.size (fun x => lim (as_.take (k + 1)).sum x)) ∧ Ext w1 wr) (fun i _ => m - (intOf i).toNat)
          case atStart => exact ⟨0, Nat.zero_le _, rfl, hA4, hB4⟩
          case round =>
            obtain ⟨j, hj, rfl, hA, hB⟩ := hrel
            obtain ⟨hcc, hff⟩ := bcell hB
            have hsz := hB.size
            by_cases hlt : j < m
            · obtain ⟨p2, hp2⟩ := get_some (xs := as_) (i := j) (by rw [← hm.out]; exact hlt)
              have hx2 := hra.out.int hp2
              have hp2i := hide (hax.out _ (List.mem_of_getElem? hp2))
              clear hp2
              clear hA4 hB4
              go_wp2_with fail
              refine (sum2_any p1 p2 hp1i.out hp2i.out _).mono ?_
              rintro e y0 ⟨rfl, hY⟩
              replace hB := hB.trans (hY.mono hB.size)
              replace hA := hide (hA.out.ext hY)
              clear hY
              go_wp2_with fail
              refine (of_any p1 hp1i.out _).mono ?_
              rintro e y1 ⟨rfl, hY⟩
              replace hB := hB.trans (hY.mono hB.size)
              replace hA := hide (hA.out.ext hY)
              clear hY
              go_wp2_with fail
              refine (of_any p2 hp2i.out _).mono ?_
              rintro e y2 ⟨rfl, hY⟩
              replace hB := hB.trans (hY.mono hB.size)
              replace hA := hide (hA.out.ext hY)
              clear hY
              go_wp2_with fail
              refine (plus_any p1 p2 _).mono ?_
              rintro e y3 ⟨rfl, hY⟩
              replace hB := hB.trans (hY.mono hB.size)
              replace hA := hide (hA.out.ext hY)
              clear hY
              go_wp2_with fail
              refine (wfits_any (p1 + p2) (mid_add hp1i.out hp2i.out) _).mono ?_
              rintro e y4 ⟨rfl, hY⟩
              replace hB := hB.trans (hY.mono hB.size)
              replace hA := hide (hA.out.ext hY)
              clear hY
              go_wp2_with fail
              refine (mul_any p1 p2 hp1i.out hp2i.out _).mono ?_
              rintro e y5 ⟨rfl, hY⟩
              replace hB := hB.trans (hY.mono hB.size)
              replace hA := hide (hA.out.ext hY)
              clear hY
              go_wp2_with fail
              refine (of_any p1 hp1i.out _).mono ?_
              rintro e y6 ⟨rfl, hY⟩
              replace hB := hB.trans (hY.mono hB.size)
              replace hA := hide (hA.out.ext hY)
              clear hY
              go_wp2_with fail
              refine (of_any p2 hp2i.out _).mono ?_
              rintro e y7 ⟨rfl, hY⟩
              replace hB := hB.trans (hY.mono hB.size)
              replace hA := hide (hA.out.ext hY)
              clear hY
              go_wp2_with fail
              refine (times_any p1 p2 _).mono ?_
              rintro e y8 ⟨rfl, hY⟩
              replace hB := hB.trans (hY.mono hB.size)
              replace hA := hide (hA.out.ext hY)
              clear hY
              go_wp2_with fail
              refine (wfits_any (p1 * p2) (mid_mul hp1i.out hp2i.out) _).mono ?_
              rintro e y9 ⟨rfl, hY⟩
              replace hB := hB.trans (hY.mono hB.size)
              replace hA := hide (hA.out.ext hY)
              clear hY
              go_wp2
              refine ⟨?_, ?_⟩
              · first
                  | exact ⟨j + 1, by omega, by go_num, hA, hB⟩
                  | ((repeat apply Exists.intro); exact ⟨⟨j + 1, by omega, by go_num, hA, hB⟩, rfl⟩)
              · first | (simp [intOf, lenV]; omega) | (simp [intOf]; omega)
            · obtain hjm : j = m := by omega
              clear hcc hff hsz
              subst hjm
              go_wp2
              refine ⟨?_, ?_⟩
              · first
                  | exact ⟨k + 1, by omega, by go_num, hA, hB⟩
                  | ((repeat apply Exists.intro); exact ⟨⟨k + 1, by omega, by go_num, hA, hB⟩, rfl⟩)
              · first | (simp [intOf, lenV]; omega) | (simp [intOf]; omega)
      · obtain hkm : k = m := by omega
        have htk : as_.take k = as_ := by rw [hkm, hm.out]; exact List.take_length
        rw [htk] at hA
        clear htk
        subst hkm
        have hrd := hide (rd.out.ext hB)
        clear hcc hff
        go_wp2_with fail
        refine (sum_any _ _ c as_ _ hm.out hrd.out hax.out (by omega)).mono ?_
        rintro e w2 ⟨rfl, hE2⟩
        have hA2 := hA.out.ext hE2
        have hB2 := hB.trans (hE2.mono hsz)
        obtain ⟨S, hS⟩ : ∃ S, S = as_.sum := ⟨_, rfl⟩
        have hmid : mid S := by rw [hS]; exact mid_sum hax.out (by rw [← hm.out]; omega)
        rw [← hS] at hA2 ⊢
        clear hS hA hB hsz hE2 hrd
        replace hmid := hide hmid
        have hal2 := hA2.2
        have d0 : w2.cell? ⟨w1.heap.size, 0, none⟩ = some (.int .u64 (lim S 0)) := (hA2.1 0 (by omega)).1
        have d1 : w2.cell? ⟨w1.heap.size, 1, none⟩ = some (.int .u64 (lim S 1)) := (hA2.1 1 (by omega)).1
        have d2 : w2.cell? ⟨w1.heap.size, 2, none⟩ = some (.int .u64 (lim S 2)) := (hA2.1 2 (by omega)).1
        have d3 : w2.cell? ⟨w1.heap.size, 3, none⟩ = some (.int .u64 (lim S 3)) := (hA2.1 3 (by omega)).1
        have d4 : w2.cell? ⟨w1.heap.size, 4, none⟩ = some (.int .u64 (lim S 4)) := (hA2.1 4 (by omega)).1
        clear hA2
        obtain ⟨fs, hfs⟩ : ∃ f, f = fit S := ⟨_, rfl⟩
        rw [← hfs]
        obtain ⟨f1, f2⟩ := fs
        replace hfs := hide hfs
        go_wp2_with fail
        refine (wfits_any S hmid.out _).mono ?_
        rintro e w3 ⟨rfl, hE3⟩
        rw [← hfs.out]
        have hB3 := hB2.trans (hE3.mono hB2.size)
        clear d0 d1 d2 d3 d4 hal2
        cases f2
        · rw [show errS ((f1, false) : Int × Bool).2 = 111 from rfl, show ((f1, false) : Int × Bool).2 = false from rfl, show ((f1, false) : Int × Bool).1 = f1 from rfl]
          go_wp2
          go_ret
          exact ⟨rfl, hE1.trans (hB3.mono hE1.size)⟩
        · rw [show errS ((f1, true) : Int × Bool).2 = 0 from rfl, show ((f1, true) : Int × Bool).2 = true from rfl, show ((f1, true) : Int × Bool).1 = f1 from rfl]
          go_wp2
          go_ret
          exact ⟨rfl, hE1.trans (hB3.mono hE1.size)⟩
  · obtain hm2 : m = 12 := by omega
    have hn12' : ¬ (n : Int) ≤ 12 := by omega
    clear hmin
    subst hm2
    go_wp2
    go_loopw [30] (fun i wr => ∃ k : Nat, k ≤ 12 ∧ i = .int .i64 k ∧ Hid (ArrAt wr w1.heap.size (fun x => lim (as_.take k).sum x)) ∧ Ext w1 wr) (fun i _ => 12 - (intOf i).toNat)
    case atStart =>
      refine ⟨0, Nat.zero_le _, rfl, hide ?_, (Below.refl _ _).alloc (Nat.le_refl _) _⟩
      exact (arr_new w1 _ rfl 0 0 0 0 0 _ (o := fun _ => 0) rfl rfl rfl rfl rfl).congr fun j hj => by simpa using lim_null j hj
    case round =>
      obtain ⟨k, hk, rfl, hA, hB⟩ := hrel
      obtain ⟨hcc, hff⟩ := bcell hB
      have hsz := hB.size
      by_cases hlt : k < 12
      · obtain ⟨b, off, rfl, hra⟩ := rd.out.at_ (i := k) (by rw [← hm.out]; exact hlt)
        have hb1 := hra.1
        obtain ⟨p1, hp⟩ := get_some (xs := as_) (i := k) (by rw [← hm.out]; exact hlt)
        have hx1 := hra.int hp
        have hp1i := hide (hax.out _ (List.mem_of_getElem? hp))
        have hS1 : Hid ((as_.take k).sum + p1 = (as_.take (k + 1)).sum) := hide (take_sum hp).symm
        obtain ⟨S, hS⟩ : ∃ S, S = (as_.take k).sum := ⟨_, rfl⟩
        rw [← hS] at hA hS1
        clear hS hp
        replace hra := hide hra
        have hA0 := hA.out
        have hal := hA0.2
        have c0 : wr.cell? ⟨w1.heap.size, 0, none⟩ = some (.int .u64 (lim S 0)) := (hA0.1 0 (by omega)).1
        have c1 : wr.cell? ⟨w1.heap.size, 1, none⟩ = some (.int .u64 (lim S 1)) := (hA0.1 1 (by omega)).1
        have c2 : wr.cell? ⟨w1.heap.size, 2, none⟩ = some (.int .u64 (lim S 2)) := (hA0.1 2 (by omega)).1
        have c3 : wr.cell? ⟨w1.heap.size, 3, none⟩ = some (.int .u64 (lim S 3)) := (hA0.1 3 (by omega)).1
        have c4 : wr.cell? ⟨w1.heap.size, 4, none⟩ = some (.int .u64 (lim S 4)) := (hA0.1 4 (by omega)).1
        clear hA0
        go_wp2
        refine wp_region_tree (fun _ => True) (.q 1 (.f 0 (.w 2 (.w 3 (.w 4 .nil))) 2 (.w 0 (.w 3 (.w 4 .nil))))) (by kernel_rfl) (by kernel_rfl) (by kernel_rfl) (by kernel_rfl) (fun _ _ d _ _ h => by cases d <;> exact h) trivial ?_
        iterate 1
          apply tree_q rfl rfl
          · intro W _
            go_simp
            try exact rfl
          simp only [Act.put, List.setIfInBounds_toArray, List.set_cons_zero, List.set_cons_succ]
        refine tree_f ?_ ?_
        · refine tree_op rfl rfl (fun K hK => ?_)
          go_simp
          refine hK _ _ trivial ?_
          clear hK K
          try simp only [Act.put, List.setIfInBounds_toArray, List.set_cons_zero, List.set_cons_succ]
          refine tree_w rfl rfl (fun K hK => ?_)
          go_simp
          refine (of_any p1 hp1i.out _).mono ?_
          rintro e w2 ⟨rfl, hE2⟩
          refine hK _ _ trivial ?_
          clear hK K
          try simp only [Act.put, List.setIfInBounds_toArray, List.set_cons_zero, List.set_cons_succ]
          refine tree_w rfl rfl (fun K hK => ?_)
          go_simp
          refine (plus_any S p1 _).mono ?_
          rintro e w3 ⟨rfl, hE3⟩
          refine hK _ _ trivial ?_
          clear hK K
          try simp only [Act.put, List.setIfInBounds_toArray, List.set_cons_zero, List.set_cons_succ]
          have hA3 := (hA.out.drew.ext hE2).ext hE3
          have hB3 := hB.drew.trans ((hE2.trans (hE3.mono hE2.size)).mono hsz)
          clear hA hB hcc hff hsz hE2 hE3 c0 c1 c2 c3 c4 hal
          obtain ⟨q1, q2, q3, q4, q5⟩ := (⟨rfl, rfl, rfl, rfl, rfl⟩ : (0 : Nat) = 0 ∧ (1 : Nat) = 1 ∧ (2 : Nat) = 2 ∧ (3 : Nat) = 3 ∧ (4 : Nat) = 4)
          clear q1 q2 q3 q4 q5
          have f0 : w3.frozen? ⟨w1.heap.size, 0, none⟩ = false := (hA3.1 0 (by omega)).2
          have f1 : w3.frozen? ⟨w1.heap.size, 1, none⟩ = false := (hA3.1 1 (by omega)).2
          have f2 : w3.frozen? ⟨w1.heap.size, 2, none⟩ = false := (hA3.1 2 (by omega)).2
          have f3 : w3.frozen? ⟨w1.heap.size, 3, none⟩ = false := (hA3.1 3 (by omega)).2
          have f4 : w3.frozen? ⟨w1.heap.size, 4, none⟩ = false := (hA3.1 4 (by omega)).2
          have z0 : w3.cell? ⟨w1.heap.size, 0, none⟩ = some (.int .u64 (lim S 0)) := (hA3.1 0 (by omega)).1
          have z1 : w3.cell? ⟨w1.heap.size, 1, none⟩ = some (.int .u64 (lim S 1)) := (hA3.1 1 (by omega)).1
          have z2 : w3.cell? ⟨w1.heap.size, 2, none⟩ = some (.int .u64 (lim S 2)) := (hA3.1 2 (by omega)).1
          have z3 : w3.cell? ⟨w1.heap.size, 3, none⟩ = some (.int .u64 (lim S 3)) := (hA3.1 3 (by omega)).1
          have z4 : w3.cell? ⟨w1.heap.size, 4, none⟩ = some (.int .u64 (lim S 4)) := (hA3.1 4 (by omega)).1
          have hl3 := hA3.2
          refine tree_w rfl rfl (fun K hK => ?_)
          unfold wV
          go_simp
          refine hK _ _ trivial ?_
          clear hK K
          try simp only [Act.put, List.setIfInBounds_toArray, List.set_cons_zero, List.set_cons_succ]
          refine tree_nil ?_
          have hA4 := hide (hA3.all (S + p1))
          have hB4 : Ext w1 (((((w3.setCell ⟨w1.heap.size, 0, none⟩ (.int .u64 (lim (S + p1) 0))).setCell ⟨w1.heap.size, 1, none⟩ (.int .u64 (lim (S + p1) 1))).setCell ⟨w1.heap.size, 2, none⟩ (.int .u64 (lim (S + p1) 2))).setCell ⟨w1.heap.size, 3, none⟩ (.int .u64 (lim (S + p1) 3))).setCell ⟨w1.heap.size, 4, none⟩ (.int .u64 (lim (S + p1) 4))) := ((((hB3.setCell (Nat.le_refl _) _).setCell (Nat.le_refl _) _).setCell (Nat.le_refl _) _).setCell (Nat.le_refl _) _).setCell (Nat.le_refl _) _
          generalize (((((w3.setCell ⟨w1.heap.size, 0, none⟩ (.int .u64 (lim (S + p1) 0))).setCell ⟨w1.heap.size, 1, none⟩ (.int .u64 (lim (S + p1) 1))).setCell ⟨w1.heap.size, 2, none⟩ (.int .u64 (lim (S + p1) 2))).setCell ⟨w1.heap.size, 3, none⟩ (.int .u64 (lim (S + p1) 3))).setCell ⟨w1.heap.size, 4, none⟩ (.int .u64 (lim (S + p1) 4))) = w4 at *
          clear f0 f1 f2 f3 f4 z0 z1 z2 z3 z4 hl3 hA3 hB3
          rw [hS1.out] at hA4
          go_wp2
          go_loopw [40] (fun i wr => ∃ j : Nat, j ≤ 12 ∧ i = .int .i64 j ∧ Hid (ArrAt wr w1.heap.size (fun x => lim (as_.take (k + 1)).sum x)) ∧ Ext w1 wr) (fun i _ => 12 - (intOf i).toNat)
          case atStart => exact ⟨0, Nat.zero_le _, rfl, hA4, hB4⟩
          case round =>
            obtain ⟨j, hj, rfl, hA, hB⟩ := hrel
            obtain ⟨hcc, hff⟩ := bcell hB
            have hsz := hB.size
            by_cases hlt : j < 12
            · obtain ⟨p2, hp2⟩ := get_some (xs := as_) (i := j) (by rw [← hm.out]; exact hlt)
              have hx2 := hra.out.int hp2
              have hp2i := hide (hax.out _ (List.mem_of_getElem? hp2))
              clear hp2
              clear hA4 hB4
              go_wp2_with fail
              refine (sum2_any p1 p2 hp1i.out hp2i.out _).mono ?_
              rintro e y0 ⟨rfl, hY⟩
              replace hB := hB.trans (hY.mono hB.size)
              replace hA := hide (hA.out.ext hY)
              clear hY
              go_wp2_with fail
              refine (of_any p1 hp1i.out _).mono ?_
              rintro e y1 ⟨rfl, hY⟩
              replace hB := hB.trans (hY.mono hB.size)
              replace hA := hide (hA.out.ext hY)
              clear hY
              go_wp2_with fail
              refine (of_any p2 hp2i.out _).mono ?_
              rintro e y2 ⟨rfl, hY⟩
              replace hB := hB.trans (hY.mono hB.size)
              replace hA := hide (hA.out.ext hY)
              clear hY
              go_wp2_with fail
              refine (plus_any p1 p2 _).mono ?_
              rintro e y3 ⟨rfl, hY⟩
              replace hB := hB.trans (hY.mono hB.size)
              replace hA := hide (hA.out.ext hY)
              clear hY
              go_wp2_with fail
              refine (wfits_any (p1 + p2) (mid_add hp1i.out hp2i.out) _).mono ?_
              rintro e y4 ⟨rfl, hY⟩
              replace hB := hB.trans (hY.mono hB.size)
              replace hA := hide (hA.out.ext hY)
              clear hY
              go_wp2_with fail
              refine (mul_any p1 p2 hp1i.out hp2i.out _).mono ?_
              rintro e y5 ⟨rfl, hY⟩
              replace hB := hB.trans (hY.mono hB.size)
              replace hA := hide (hA.out.ext hY)
              clear hY
              go_wp2_with fail
              refine (of_any p1 hp1i.out _).mono ?_
              rintro e y6 ⟨rfl, hY⟩
              replace hB := hB.trans (hY.mono hB.size)
              replace hA := hide (hA.out.ext hY)
              clear hY
              go_wp2_with fail
              refine (of_any p2 hp2i.out _).mono ?_
              rintro e y7 ⟨rfl, hY⟩
              replace hB := hB.trans (hY.mono hB.size)
              replace hA := hide (hA.out.ext hY)
              clear hY
              go_wp2_with fail
              refine (times_any p1 p2 _).mono ?_
              rintro e y8 ⟨rfl, hY⟩
              replace hB := hB.trans (hY.mono hB.size)
              replace hA := hide (hA.out.ext hY)
              clear hY
              go_wp2_with fail
              refine (wfits_any (p1 * p2) (mid_mul hp1i.out hp2i.out) _).mono ?_
              rintro e y9 ⟨rfl, hY⟩
              replace hB := hB.trans (hY.mono hB.size)
              replace hA := hide (hA.out.ext hY)
              clear hY
              go_wp2
              refine ⟨?_, ?_⟩
              · first
                  | exact ⟨j + 1, by omega, by go_num, hA, hB⟩
                  | ((repeat apply Exists.intro); exact ⟨⟨j + 1, by omega, by go_num, hA, hB⟩, rfl⟩)
              · first | (simp [intOf, lenV]; omega) | (simp [intOf]; omega)
            · obtain hjm : j = 12 := by omega
              clear hcc hff hsz
              subst hjm
              go_wp2
              refine ⟨?_, ?_⟩
              · first
                  | exact ⟨k + 1, by omega, by go_num, hA, hB⟩
                  | ((repeat apply Exists.intro); exact ⟨⟨k + 1, by omega, by go_num, hA, hB⟩, rfl⟩)
              · first | (simp [intOf, lenV]; omega) | (simp [intOf]; omega)
        · refine tree_op rfl rfl (fun K hK => ?_)
          go_simp
          refine (of_any p1 hp1i.out _).mono ?_
          rintro e w2 ⟨rfl, hE2⟩
          have hA2 := hA.out.drew.ext hE2
          have hal2 := hA2.2
          have d0 : w2.cell? ⟨w1.heap.size, 0, none⟩ = some (.int .u64 (lim S 0)) := (hA2.1 0 (by omega)).1
          have d1 : w2.cell? ⟨w1.heap.size, 1, none⟩ = some (.int .u64 (lim S 1)) := (hA2.1 1 (by omega)).1
          have d2 : w2.cell? ⟨w1.heap.size, 2, none⟩ = some (.int .u64 (lim S 2)) := (hA2.1 2 (by omega)).1
          have d3 : w2.cell? ⟨w1.heap.size, 3, none⟩ = some (.int .u64 (lim S 3)) := (hA2.1 3 (by omega)).1
          have d4 : w2.cell? ⟨w1.heap.size, 4, none⟩ = some (.int .u64 (lim S 4)) := (hA2.1 4 (by omega)).1
          refine hK _ _ trivial ?_
          clear hK K
          try simp only [Act.put, List.setIfInBounds_toArray, List.set_cons_zero, List.set_cons_succ]
          clear hA2
          refine tree_w rfl rfl (fun K hK => ?_)
          go_simp
          refine hK _ _ trivial ?_
          clear hK K
          try simp only [Act.put, List.setIfInBounds_toArray, List.set_cons_zero, List.set_cons_succ]
          refine tree_w rfl rfl (fun K hK => ?_)
          go_simp
          refine (plus_any S p1 _).mono ?_
          rintro e w3 ⟨rfl, hE3⟩
          refine hK _ _ trivial ?_
          clear hK K
          try simp only [Act.put, List.setIfInBounds_toArray, List.set_cons_zero, List.set_cons_succ]
          have hA3 := (hA.out.drew.ext hE2).ext hE3
          have hB3 := hB.drew.trans ((hE2.trans (hE3.mono hE2.size)).mono hsz)
          clear hA hB hcc hff hsz hE2 hE3 c0 c1 c2 c3 c4 hal d0 d1 d2 d3 d4 hal2
          obtain ⟨q1, q2, q3, q4, q5⟩ := (⟨rfl, rfl, rfl, rfl, rfl⟩ : (0 : Nat) = 0 ∧ (1 : Nat) = 1 ∧ (2 : Nat) = 2 ∧ (3 : Nat) = 3 ∧ (4 : Nat) = 4)
          clear q1 q2 q3 q4 q5
          have f0 : w3.frozen? ⟨w1.heap.size, 0, none⟩ = false := (hA3.1 0 (by omega)).2
          have f1 : w3.frozen? ⟨w1.heap.size, 1, none⟩ = false := (hA3.1 1 (by omega)).2
          have f2 : w3.frozen? ⟨w1.heap.size, 2, none⟩ = false := (hA3.1 2 (by omega)).2
          have f3 : w3.frozen? ⟨w1.heap.size, 3, none⟩ = false := (hA3.1 3 (by omega)).2
          have f4 : w3.frozen? ⟨w1.heap.size, 4, none⟩ = false := (hA3.1 4 (by omega)).2
          have z0 : w3.cell? ⟨w1.heap.size, 0, none⟩ = some (.int .u64 (lim S 0)) := (hA3.1 0 (by omega)).1
          have z1 : w3.cell? ⟨w1.heap.size, 1, none⟩ = some (.int .u64 (lim S 1)) := (hA3.1 1 (by omega)).1
          have z2 : w3.cell? ⟨w1.heap.size, 2, none⟩ = some (.int .u64 (lim S 2)) := (hA3.1 2 (by omega)).1
          have z3 : w3.cell? ⟨w1.heap.size, 3, none⟩ = some (.int .u64 (lim S 3)) := (hA3.1 3 (by omega)).1
          have z4 : w3.cell? ⟨w1.heap.size, 4, none⟩ = some (.int .u64 (lim S 4)) := (hA3.1 4 (by omega)).1
          have hl3 := hA3.2
          refine tree_w rfl rfl (fun K hK => ?_)
          unfold wV
          go_simp
          refine hK _ _ trivial ?_
          clear hK K
          try simp only [Act.put, List.setIfInBounds_toArray, List.set_cons_zero, List.set_cons_succ]
          refine tree_nil ?_
          have hA4 := hide (hA3.all (S + p1))
          have hB4 : Ext w1 (((((w3.setCell ⟨w1.heap.size, 0, none⟩ (.int .u64 (lim (S + p1) 0))).setCell ⟨w1.heap.size, 1, none⟩ (.int .u64 (lim (S + p1) 1))).setCell ⟨w1.heap.size, 2, none⟩ (.int .u64 (lim (S + p1) 2))).setCell ⟨w1.heap.size, 3, none⟩ (.int .u64 (lim (S + p1) 3))).setCell ⟨w1.heap.size, 4, none⟩ (.int .u64 (lim (S + p1) 4))) := ((((hB3.setCell (Nat.le_refl _) _).setCell (Nat.le_refl _) _).setCell (Nat.le_refl _) _).setCell (Nat.le_refl _) _).setCell (Nat.le_refl _) _
          generalize (((((w3.setCell ⟨w1.heap.size, 0, none⟩ (.int .u64 (lim (S + p1) 0))).setCell ⟨w1.heap.size, 1, none⟩ (.int .u64 (lim (S + p1) 1))).setCell ⟨w1.heap.size, 2, none⟩ (.int .u64 (lim (S + p1) 2))).setCell ⟨w1.heap.size, 3, none⟩ (.int .u64 (lim (S + p1) 3))).setCell ⟨w1.heap.size, 4, none⟩ (.int .u64 (lim (S + p1) 4))) = w4 at *
          clear f0 f1 f2 f3 f4 z0 z1 z2 z3 z4 hl3 hA3 hB3
          rw [hS1.out] at hA4
          go_wp2
          go_loopw [40] (fun i wr => ∃ j : Nat, j ≤ 12 ∧ i = .int .i64 j ∧ Hid (ArrAt wr w1.heap.size (fun x => lim (as_.take (k + 1)).sum x)) ∧ Ext w1 wr) (fun i _ => 12 - (intOf i).toNat)
          case atStart => exact ⟨0, Nat.zero_le _, rfl, hA4, hB4⟩
          case round =>
            obtain ⟨j, hj, rfl, hA, hB⟩ := hrel
            obtain ⟨hcc, hff⟩ := bcell hB
            have hsz := hB.size
            by_cases hlt : j < 12
            · obtain ⟨p2, hp2⟩ := get_some (xs := as_) (i := j) (by rw [← hm.out]; exact hlt)
              have hx2 := hra.out.int hp2
              have hp2i := hide (hax.out _ (List.mem_of_getElem? hp2))
              clear hp2
              clear hA4 hB4
              go_wp2_with fail
              refine (sum2_any p1 p2 hp1i.out hp2i.out _).mono ?_
              rintro e y0 ⟨rfl, hY⟩
              replace hB := hB.trans (hY.mono hB.size)
              replace hA := hide (hA.out.ext hY)
              clear hY
              go_wp2_with fail
              refine (of_any p1 hp1i.out _).mono ?_
              rintro e y1 ⟨rfl, hY⟩
              replace hB := hB.trans (hY.mono hB.size)
              replace hA := hide (hA.out.ext hY)
              clear hY
              go_wp2_with fail
              refine (of_any p2 hp2i.out _).mono ?_
              rintro e y2 ⟨rfl, hY⟩
              replace hB := hB.trans (hY.mono hB.size)
              replace hA := hide (hA.out.ext hY)
              clear hY
              go_wp2_with fail
              refine (plus_any p1 p2 _).mono ?_
              rintro e y3 ⟨rfl, hY⟩
              replace hB := hB.trans (hY.mono hB.size)
              replace hA := hide (hA.out.ext hY)
              clear hY
              go_wp2_with fail
              refine (wfits_any (p1 + p2) (mid_add hp1i.out hp2i.out) _).mono ?_
              rintro e y4 ⟨rfl, hY⟩
              replace hB := hB.trans (hY.mono hB.size)
              replace hA := hide (hA.out.ext hY)
              clear hY
              go_wp2_with fail
              refine (mul_any p1 p2 hp1i.out hp2i.out _).mono ?_
              rintro e y5 ⟨rfl, hY⟩
              replace hB := hB.trans (hY.mono hB.size)
              replace hA := hide (hA.out.ext hY)
              clear hY
              go_wp2_with fail
              refine (of_any p1 hp1i.out _).mono ?_
              rintro e y6 ⟨rfl, hY⟩
              replace hB := hB.trans (hY.mono hB.size)
              replace hA := hide (hA.out.ext hY)
              clear hY
              go_wp2_with fail
              refine (of_any p2 hp2i.out _).mono ?_
              rintro e y7 ⟨rfl, hY⟩
              replace hB := hB.trans (hY.mono hB.size)
              replace hA := hide (hA.out.ext hY)
              clear hY
              go_wp2_with fail
              refine (times_any p1 p2 _).mono ?_
              rintro e y8 ⟨rfl, hY⟩
              replace hB := hB.trans (hY.mono hB.size)
              replace hA := hide (hA.out.ext hY)
              clear hY
              go_wp2_with fail
              refine (wfits_any (p1 * p2) (mid_mul hp1i.out hp2i.out) _).mono ?_
              rintro e y9 ⟨rfl, hY⟩
              replace hB := hB.trans (hY.mono hB.size)
              replace hA := hide (hA.out.ext hY)
              clear hY
              go_wp2
              refine ⟨?_, ?_⟩
              · first
                  | exact ⟨j + 1, by omega, by go_num, hA, hB⟩
                  | ((repeat apply Exists.intro); exact ⟨⟨j + 1, by omega, by go_num, hA, hB⟩, rfl⟩)
              · first | (simp [intOf, lenV]; omega) | (simp [intOf]; omega)
            · obtain hjm : j = 12 := by omega
              clear hcc hff hsz
              subst hjm
              go_wp2
              refine ⟨?_, ?_⟩
              · first
                  | exact ⟨k + 1, by omega, by go_num, hA, hB⟩
                  | ((repeat apply Exists.intro); exact ⟨⟨k + 1, by omega, by go_num, hA, hB⟩, rfl⟩)
              · first | (simp [intOf, lenV]; omega) | (simp [intOf]; omega)
      · obtain hkm : k = 12 := by omega
        have htk : as_.take k = as_ := by rw [hkm, hm.out]; exact List.take_length
        rw [htk] at hA
        clear htk
        subst hkm
        have hrd := hide (rd.out.ext hB)
        clear hcc hff
        go_wp2_with fail
        refine (sum_any _ _ c as_ _ hm.out hrd.out hax.out (by omega)).mono ?_
        rintro e w2 ⟨rfl, hE2⟩
        have hA2 := hA.out.ext hE2
        have hB2 := hB.trans (hE2.mono hsz)
        obtain ⟨S, hS⟩ : ∃ S, S = as_.sum := ⟨_, rfl⟩
        have hmid : mid S := by rw [hS]; exact mid_sum hax.out (by rw [← hm.out]; omega)
        rw [← hS] at hA2 ⊢
        clear hS hA hB hsz hE2 hrd
        replace hmid := hide hmid
        have hal2 := hA2.2
        have d0 : w2.cell? ⟨w1.heap.size, 0, none⟩ = some (.int .u64 (lim S 0)) := (hA2.1 0 (by omega)).1
        have d1 : w2.cell? ⟨w1.heap.size, 1, none⟩ = some (.int .u64 (lim S 1)) := (hA2.1 1 (by omega)).1
        have d2 : w2.cell? ⟨w1.heap.size, 2, none⟩ = some (.int .u64 (lim S 2)) := (hA2.1 2 (by omega)).1
        have d3 : w2.cell? ⟨w1.heap.size, 3, none⟩ = some (.int .u64 (lim S 3)) := (hA2.1 3 (by omega)).1
        have d4 : w2.cell? ⟨w1.heap.size, 4, none⟩ = some (.int .u64 (lim S 4)) := (hA2.1 4 (by omega)).1
        clear hA2
        obtain ⟨fs, hfs⟩ : ∃ f, f = fit S := ⟨_, rfl⟩
        rw [← hfs]
        obtain ⟨f1, f2⟩ := fs
        replace hfs := hide hfs
        go_wp2_with fail
        refine (wfits_any S hmid.out _).mono ?_
        rintro e w3 ⟨rfl, hE3⟩
        rw [← hfs.out]
        have hB3 := hB2.trans (hE3.mono hB2.size)
        clear d0 d1 d2 d3 d4 hal2
        cases f2
        · rw [show errS ((f1, false) : Int × Bool).2 = 111 from rfl, show ((f1, false) : Int × Bool).2 = false from rfl, show ((f1, false) : Int × Bool).1 = f1 from rfl]
          go_wp2
          go_ret
          exact ⟨rfl, hE1.trans (hB3.mono hE1.size)⟩
        · rw [show errS ((f1, true) : Int × Bool).2 = 0 from rfl, show ((f1, true) : Int × Bool).2 = true from rfl, show ((f1, true) : Int × Bool).1 = f1 from rfl]
          go_wp2
          go_ret
          exact ⟨rfl, hE1.trans (hB3.mono hE1.size)⟩
end Go.Proofs.Ytfkmbnlpdolemaa
