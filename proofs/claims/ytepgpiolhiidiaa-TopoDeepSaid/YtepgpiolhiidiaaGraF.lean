/- The document's Right, Out, In, Kinds, Reverse, With, Of. -/
import Derived.Test.YtepgpiolhiidiaaGraE
namespace Go.Proofs.Ytepgpiolhiidiaa
open Go.RowKit

set_option maxHeartbeats 4000000 in
theorem refRight_any (n : Int) (A : Option Addr) (m c : Nat) (xs : List (Int × Int × Int)) (w : World) (h : Rd edgeE w.heap.size w A xs) (hm : m = xs.length) (hl : m ≤ 1000000) :
    Calls Try.prog 12 #[.agg #[.int .i64 n, .slice A m c]] w fun e w' => e = .returned (.bool (rightG n xs)) ∧ Ext w w' := by
  obtain ⟨q, hq⟩ : ∃ q, q = rightG n xs := ⟨_, rfl⟩
  rw [← hq]
  replace hq := hide hq
  replace h := hide h
  replace hm := hide hm
  go_enter Try.func12, Try.ntmps12
  go_upto_region 1 with fail
  obtain ⟨w0, hw0⟩ : ∃ w0, w0 = w.alloc (.cells #[.int .i64 n, .slice A m c] 24) := ⟨_, rfl⟩
  rw [← hw0]
  have hE0 : Ext w w0 := by rw [hw0]; exact (Below.refl _ _).alloc (Nat.le_refl _) _
  have X1 : BoxG w0 w.heap.size n A m c := by rw [hw0]; exact BoxN.new w _ _
  clear hw0
  obtain ⟨pg, hpg⟩ : ∃ b, b = w.heap.size := ⟨_, rfl⟩
  rw [← hpg] at X1 ⊢
  clear hpg
  have k10 := X1.cell 0 (v := .int .i64 n) rfl
  have k11 := X1.cell 1 (v := .slice A m c) rfl
  have s1 := X1.lt
  replace X1 := hide X1
  go_wp2
  go_loopw [8] (fun i wr => ∃ k : Nat, k ≤ m ∧ i = .int .i64 k ∧ Hid (∀ j x, j < k → xs[j]? = some x → stepE n xs j x = true) ∧ Hid (BoxG wr pg n A m c) ∧ Ext w wr) (fun i _ => m - (intOf i).toNat)
  case atStart => exact ⟨0, Nat.zero_le _, rfl, hide (fun j x hj => by omega), X1, hE0⟩
  case round =>
    clear X1 hE0 k10 k11 s1
    obtain ⟨k, hk, rfl, hall, X1, hB⟩ := hrel
    by_cases hlt : k < m
    · have hlt' : (k : Int) < (m : Int) := by omega
      obtain ⟨b, off, rfl, hra⟩ := h.out.at_ (i := k) (by rw [← hm.out]; exact hlt)
      obtain ⟨⟨p1, p2, p3⟩, hx⟩ := get_some (xs := xs) (i := k) (by rw [← hm.out]; exact hlt)
      obtain ⟨hx1, hx2, hx3⟩ := (hra.below hB).edge hx
      have hb1 : b < wr.heap.size := Nat.lt_of_lt_of_le hra.1 hB.size
      replace hx := hide hx
      replace hra := hide hra
      go_upto_region 4 with fail
      obtain ⟨w1, hw1⟩ : ∃ x, x = World.alloc wr (.cells #[.int .i64 p1, .int .i64 p2, .int .i64 p3] 50) := ⟨_, rfl⟩
      rw [← hw1]
      have hE1 : Ext wr w1 := by rw [hw1]; exact (Below.refl _ _).alloc (Nat.le_refl _) _
      have X4 : BoxN w1 (World.heap wr).size 50 #[.int .i64 p1, .int .i64 p2, .int .i64 p3] := by rw [hw1]; exact BoxN.new _ _ _
      clear hw1
      obtain ⟨p4, hpe⟩ : ∃ b, b = (World.heap wr).size := ⟨_, rfl⟩
      rw [← hpe] at X4 ⊢
      clear hpe
      have hB1 := hB.trans (hE1.mono hB.size)
      clear hx1 hx2 hx3 hb1
      have k10 := (X1.out.ext hE1).cell 0 (v := .int .i64 n) rfl
      have k11 := (X1.out.ext hE1).cell 1 rfl
      have s1 := (X1.out.ext hE1).lt
      have k40 := X4.cell 0 (v := .int .i64 p1) rfl
      have k41 := X4.cell 1 (v := .int .i64 p2) rfl
      have k42 := X4.cell 2 (v := .int .i64 p3) rfl
      have s4 := X4.lt
      cases hr : rightE n (p1, p2, p3) with
      | false =>
        have T : Ext w1 w1.drew := (Below.refl _ _).drew
        refine wp_region_mix (fun W => Below w1.heap.size w1 W) [(0, true), (1, true), (2, true), (3, false), (4, true), (5, true), (6, true), (7, true), (8, true), (9, true), (10, true), (11, true), (12, true), (13, true), (14, true), (15, true), (16, false), (17, true), (18, true), (19, true)] (by kernel_rfl) (by kernel_rfl) (by kernel_rfl) (by kernel_rfl) (fun _ _ d _ _ h => by cases d <;> exact h) ?_ ?_
        · exact T
        obtain ⟨wl, hwh⟩ : ∃ x, x = w1.drew := ⟨_, rfl⟩
        rw [← hwh] at T ⊢
        clear hwh
        iterate 3
          apply mix_q rfl rfl
          · intro W hW
            have hcW := (bcell hW).1
            go_simp
            try exact rfl
          simp only [Act.put, List.setIfInBounds_toArray, List.set_cons_zero, List.set_cons_succ]
        refine mix_w rfl rfl (fun K hK => ?_)
        go_simp
        refine (rightEdge_any n p1 p2 p3 _).mono ?_
        rintro e w2 ⟨rfl, hE⟩
        refine hK _ _ (T.trans (hE.mono T.size)) ?_
        clear hK K
        try simp only [Act.put, List.setIfInBounds_toArray, List.set_cons_zero, List.set_cons_succ]
        replace T := T.trans (hE.mono T.size)
        clear hE
        rw [hr]
        iterate 2
          apply mix_q rfl rfl
          · intro W hW
            have hcW := (bcell hW).1
            go_simp
            try exact rfl
          simp only [Act.put, List.setIfInBounds_toArray, List.set_cons_zero, List.set_cons_succ]
        iterate 10
          refine mix_off rfl (wanted_is rfl rfl rfl rfl rfl) ?_
          simp only [Act.put, List.setIfInBounds_toArray, List.set_cons_zero, List.set_cons_succ]
        refine mix_woff rfl (wanted_is rfl rfl rfl rfl rfl) T ?_
        try simp only [Act.put, List.setIfInBounds_toArray, List.set_cons_zero, List.set_cons_succ]
        iterate 2
          refine mix_off rfl (wanted_is rfl rfl rfl rfl rfl) ?_
          simp only [Act.put, List.setIfInBounds_toArray, List.set_cons_zero, List.set_cons_succ]
        iterate 1
          apply mix_q rfl rfl
          · intro W hW
            have hcW := (bcell hW).1
            go_simp
            try exact rfl
          simp only [Act.put, List.setIfInBounds_toArray, List.set_cons_zero, List.set_cons_succ]
        refine mix_nil ?_
        have hv : Hid (q = false) := hide (by rw [hq.out]; unfold rightG; rw [allH_false hx.out (by unfold stepE; rw [hr, Bool.false_and]), Bool.and_false])
        go_wp2
        go_ret
        exact ⟨ret_bool hv.out.symm, hB1.trans (T.mono hB1.size)⟩
      | true =>
        by_cases h0 : k = 0
        · have h0' : ¬ (0 : Int) < (k : Int) := by omega
          have T : Ext w1 w1.drew := (Below.refl _ _).drew
          refine wp_region_mix (fun W => Below w1.heap.size w1 W) [(0, true), (1, true), (2, true), (3, false), (4, true), (5, true), (6, true), (7, true), (8, true), (9, true), (10, true), (11, true), (12, true), (13, true), (14, true), (15, true), (16, false), (17, true), (18, true), (19, true)] (by kernel_rfl) (by kernel_rfl) (by kernel_rfl) (by kernel_rfl) (fun _ _ d _ _ h => by cases d <;> exact h) ?_ ?_
          · exact T
          obtain ⟨wl, hwh⟩ : ∃ x, x = w1.drew := ⟨_, rfl⟩
          rw [← hwh] at T ⊢
          clear hwh
          iterate 3
            apply mix_q rfl rfl
            · intro W hW
              have hcW := (bcell hW).1
              go_simp
              try exact rfl
            simp only [Act.put, List.setIfInBounds_toArray, List.set_cons_zero, List.set_cons_succ]
          refine mix_w rfl rfl (fun K hK => ?_)
          go_simp
          refine (rightEdge_any n p1 p2 p3 _).mono ?_
          rintro e w2 ⟨rfl, hE⟩
          refine hK _ _ (T.trans (hE.mono T.size)) ?_
          clear hK K
          try simp only [Act.put, List.setIfInBounds_toArray, List.set_cons_zero, List.set_cons_succ]
          replace T := T.trans (hE.mono T.size)
          clear hE
          rw [hr]
          iterate 2
            apply mix_q rfl rfl
            · intro W hW
              have hcW := (bcell hW).1
              go_simp
              try exact rfl
            simp only [Act.put, List.setIfInBounds_toArray, List.set_cons_zero, List.set_cons_succ]
          iterate 3
            apply mix_on rfl (wanted_is rfl rfl rfl rfl rfl)
            · intro W hW
              have hcW := (bcell hW).1
              go_simp
              try exact rfl
            simp only [Act.put, List.setIfInBounds_toArray, List.set_cons_zero, List.set_cons_succ]
          iterate 7
            refine mix_off rfl (wanted_is rfl rfl rfl rfl rfl) ?_
            simp only [Act.put, List.setIfInBounds_toArray, List.set_cons_zero, List.set_cons_succ]
          refine mix_woff rfl (wanted_is rfl rfl rfl rfl rfl) T ?_
          try simp only [Act.put, List.setIfInBounds_toArray, List.set_cons_zero, List.set_cons_succ]
          iterate 1
            refine mix_off rfl (wanted_is rfl rfl rfl rfl rfl) ?_
            simp only [Act.put, List.setIfInBounds_toArray, List.set_cons_zero, List.set_cons_succ]
          iterate 1
            apply mix_on rfl (wanted_is rfl rfl rfl rfl rfl)
            · intro W hW
              have hcW := (bcell hW).1
              go_simp
              try exact rfl
            simp only [Act.put, List.setIfInBounds_toArray, List.set_cons_zero, List.set_cons_succ]
          iterate 1
            apply mix_q rfl rfl
            · intro W hW
              have hcW := (bcell hW).1
              go_simp
              try exact rfl
            simp only [Act.put, List.setIfInBounds_toArray, List.set_cons_zero, List.set_cons_succ]
          refine mix_nil ?_
          have hall2 : Hid (∀ j x, j < k + 1 → xs[j]? = some x → stepE n xs j x = true) := hide (fun j x hj hx' => by
            by_cases hjk : j = k
            · subst hjk
              rw [hx.out] at hx'
              injection hx' with hx'
              rw [← hx']; unfold stepE; rw [hr, decide_eq_true h0, Bool.true_or, Bool.and_true]
            · exact hall.out j x (by omega) hx')
          go_wp2
          refine ⟨?_, ?_⟩
          · first
              | exact ⟨k + 1, by omega, by go_num, hall2, hide (X1.out.ext (hE1.trans (T.mono hE1.size))), hB1.trans (T.mono hB1.size)⟩
              | ((repeat apply Exists.intro); exact ⟨⟨k + 1, by omega, by go_num, hall2, hide (X1.out.ext (hE1.trans (T.mono hE1.size))), hB1.trans (T.mono hB1.size)⟩, rfl⟩)
          · first | (simp [intOf, lenV]; omega) | (simp [intOf]; omega) | (simp [intOf]; done)
        · have h0' : (0 : Int) < (k : Int) := by omega
          have h0n : 0 < k := by omega
          obtain ⟨⟨q1, q2, q3⟩, hy⟩ := get_some (xs := xs) (i := k - 1) (by rw [← hm.out]; omega)
          obtain ⟨hy1, hy2, hy3⟩ := (hra.out.below hB1).edge hy
          have hb2 : b < w1.heap.size := Nat.lt_of_lt_of_le hra.out.1 hB1.size
          have hgd : xs.getD (k - 1) (0, 0, 0) = (q1, q2, q3) := by rw [List.getD_eq_getElem?_getD, hy]; rfl
          have t1 : IntKind.i64.wrap ((k : Int) - 1) = (k : Int) - 1 := IntWalk.i64_in _ (by omega)
          have t2 : (0 : Int) ≤ (k : Int) - 1 := by omega
          have t3 : ((k : Int) - 1).toNat = k - 1 := by omega
          have t4 : (k : Int) - 1 < (m : Int) := by omega
          have t5 : (1 : Int) ≤ (k : Int) := by omega
          replace hgd := hide hgd
          replace hy := hide hy
          have T : Ext w1 w1.drew := (Below.refl _ _).drew
          refine wp_region_mix (fun W => Below w1.heap.size w1 W) [(0, true), (1, true), (2, true), (3, false), (4, true), (5, true), (6, true), (7, true), (8, true), (9, true), (10, true), (11, true), (12, true), (13, true), (14, true), (15, true), (16, false), (17, true), (18, true), (19, true)] (by kernel_rfl) (by kernel_rfl) (by kernel_rfl) (by kernel_rfl) (fun _ _ d _ _ h => by cases d <;> exact h) ?_ ?_
          · exact T
          obtain ⟨wl, hwh⟩ : ∃ x, x = w1.drew := ⟨_, rfl⟩
          rw [← hwh] at T ⊢
          clear hwh
          iterate 3
            apply mix_q rfl rfl
            · intro W hW
              have hcW := (bcell hW).1
              go_simp
              try exact rfl
            simp only [Act.put, List.setIfInBounds_toArray, List.set_cons_zero, List.set_cons_succ]
          refine mix_w rfl rfl (fun K hK => ?_)
          go_simp
          refine (rightEdge_any n p1 p2 p3 _).mono ?_
          rintro e w2 ⟨rfl, hE⟩
          refine hK _ _ (T.trans (hE.mono T.size)) ?_
          clear hK K
          try simp only [Act.put, List.setIfInBounds_toArray, List.set_cons_zero, List.set_cons_succ]
          replace T := T.trans (hE.mono T.size)
          clear hE
          rw [hr]
          iterate 2
            apply mix_q rfl rfl
            · intro W hW
              have hcW := (bcell hW).1
              go_simp
              try exact rfl
            simp only [Act.put, List.setIfInBounds_toArray, List.set_cons_zero, List.set_cons_succ]
          iterate 10
            apply mix_on rfl (wanted_is rfl rfl rfl rfl rfl)
            · intro W hW
              have hcW := (bcell hW).1
              go_simp
              try exact rfl
            simp only [Act.put, List.setIfInBounds_toArray, List.set_cons_zero, List.set_cons_succ]
          refine mix_won rfl (wanted_is rfl rfl rfl rfl rfl) (fun K hK => ?_)
          go_simp
          refine (ahead_any q1 q2 q3 p1 p2 p3 _).mono ?_
          rintro e w3 ⟨rfl, hE⟩
          refine hK _ _ (T.trans (hE.mono T.size)) ?_
          clear hK K
          try simp only [Act.put, List.setIfInBounds_toArray, List.set_cons_zero, List.set_cons_succ]
          replace T := T.trans (hE.mono T.size)
          clear hE
          cases ha : ltE (q1, q2, q3) (p1, p2, p3) with
          | true =>
            iterate 2
              apply mix_on rfl (wanted_is rfl rfl rfl rfl rfl)
              · intro W hW
                have hcW := (bcell hW).1
                go_simp
                try exact rfl
              simp only [Act.put, List.setIfInBounds_toArray, List.set_cons_zero, List.set_cons_succ]
            iterate 1
              apply mix_q rfl rfl
              · intro W hW
                have hcW := (bcell hW).1
                go_simp
                try exact rfl
              simp only [Act.put, List.setIfInBounds_toArray, List.set_cons_zero, List.set_cons_succ]
            refine mix_nil ?_
            have hall2 : Hid (∀ j x, j < k + 1 → xs[j]? = some x → stepE n xs j x = true) := hide (fun j x hj hx' => by
              by_cases hjk : j = k
              · subst hjk
                rw [hx.out] at hx'
                injection hx' with hx'
                rw [← hx']; unfold stepE; rw [hr, decide_eq_false h0, hgd.out, ha]; rfl
              · exact hall.out j x (by omega) hx')
            go_wp2
            refine ⟨?_, ?_⟩
            · first
                | exact ⟨k + 1, by omega, by go_num, hall2, hide (X1.out.ext (hE1.trans (T.mono hE1.size))), hB1.trans (T.mono hB1.size)⟩
                | ((repeat apply Exists.intro); exact ⟨⟨k + 1, by omega, by go_num, hall2, hide (X1.out.ext (hE1.trans (T.mono hE1.size))), hB1.trans (T.mono hB1.size)⟩, rfl⟩)
            · first | (simp [intOf, lenV]; omega) | (simp [intOf]; omega) | (simp [intOf]; done)
          | false =>
            iterate 2
              apply mix_on rfl (wanted_is rfl rfl rfl rfl rfl)
              · intro W hW
                have hcW := (bcell hW).1
                go_simp
                try exact rfl
              simp only [Act.put, List.setIfInBounds_toArray, List.set_cons_zero, List.set_cons_succ]
            iterate 1
              apply mix_q rfl rfl
              · intro W hW
                have hcW := (bcell hW).1
                go_simp
                try exact rfl
              simp only [Act.put, List.setIfInBounds_toArray, List.set_cons_zero, List.set_cons_succ]
            refine mix_nil ?_
            have hv : Hid (q = false) := hide (by rw [hq.out]; unfold rightG; rw [allH_false hx.out (by unfold stepE; rw [hr, decide_eq_false h0, hgd.out, ha]; rfl), Bool.and_false])
            go_wp2
            go_ret
            exact ⟨ret_bool hv.out.symm, hB1.trans (T.mono hB1.size)⟩
    · have hlt' : ¬ (k : Int) < (m : Int) := by omega
      have hAll : Hid (allH (stepE n xs) xs = true) := hide (allH_true (k := k) (by rw [← hm.out]; omega) (fun i x hi hx => hall.out i x hi hx))
      have k10 := X1.out.cell 0 (v := .int .i64 n) rfl
      have k11 := X1.out.cell 1 rfl
      have s1 := X1.out.lt
      by_cases h1 : 0 ≤ n
      · by_cases h2 : n ≤ 300
        · have hv : Hid (q = decide ((m : Int) ≤ 40000)) := hide (by
            rw [hq.out]; unfold rightG
            rw [hAll.out, decide_eq_true h1, decide_eq_true h2, ← hm.out]
            simp
            omega)
          go_wp2
          go_ret
          exact ⟨ret_bool hv.out.symm, hB⟩
        · have hv : Hid (q = false) := hide (by rw [hq.out]; unfold rightG; simp [h2])
          go_wp2
          go_ret
          exact ⟨ret_bool hv.out.symm, hB⟩
      · have hv : Hid (q = false) := hide (by rw [hq.out]; unfold rightG; simp [h1])
        go_wp2
        go_ret
        exact ⟨ret_bool hv.out.symm, hB⟩
end Go.Proofs.Ytepgpiolhiidiaa
