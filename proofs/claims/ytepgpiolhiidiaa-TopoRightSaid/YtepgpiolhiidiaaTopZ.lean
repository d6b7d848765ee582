/- TopoRight, walked. -/
import Derived.Test.YtepgpiolhiidiaaTopY
import Derived.Test.YtepgpiolhiidiaaGraF
import Derived.Test.YtepgpiolhiidiaaOpenR
namespace Go.Proofs.Ytepgpiolhiidiaa
open Go.RowKit Go.Shelf
attribute [local go_sem] Oper.semAt_some
set_option maxRecDepth 100000 in
set_option maxHeartbeats 8000000 in
theorem topoRight_any (n : Int) (A : Option Addr) (m c : Nat) (xs : List (Int × Int × Int)) (A2 : Option Addr) (n2 c2 : Nat) (LL : List RArg) (w : World) (hm : m = xs.length) (hmc : m ≤ c) (h : Rd edgeE w.heap.size w A xs) (hn2 : n2 = LL.length) (hm2 : n2 ≤ maxLen) (h2 : RRow w A2 LL) :
    Calls Try.prog 3 #[.agg #[.int .i64 n, .slice A m c], .slice A2 n2 c2] w fun e w' => e = .returned (.bool true) ∧ Ext w w' := by
  replace h := hide h
  replace hm := hide hm
  replace h2 := hide h2
  replace hn2 := hide hn2
  go_enter Try.func3, Try.ntmps3
  go_upto_region 1 with fail
  obtain ⟨w0, hw0⟩ : ∃ w0, w0 = w.alloc (.cells #[.int .i64 n, .slice A m c] 24) := ⟨_, rfl⟩
  rw [← hw0]
  have T : Ext w w0 := by rw [hw0]; exact (Below.refl _ _).alloc (Nat.le_refl _) _
  have X1 : Hid (BoxG w0 w.heap.size n A m c) := hide (by rw [hw0]; exact BoxN.new w _ _)
  clear hw0
  obtain ⟨pg, hpg⟩ : ∃ b, b = w.heap.size := ⟨_, rfl⟩
  rw [← hpg] at X1 ⊢
  clear hpg
  go_wp2_with fail
  refine (wakes_any _).mono ?_
  rintro e w1 ⟨rfl, hE⟩
  replace T := T.trans (hE.mono T.size)
  replace X1 := hide (X1.out.ext hE)
  clear hE
  have k10 := X1.out.cell 0 (v := .int .i64 n) rfl
  have k11 := X1.out.cell 1 (v := .slice A m c) rfl
  have s1 := X1.out.lt
  have hla : (xs.take 60).length ≤ 60 := by rw [List.length_take]; omega
  obtain ⟨a, ha⟩ : ∃ a, a = xs.take 60 := ⟨_, rfl⟩
  rw [← ha] at hla
  replace ha := hide ha
  go_wp2_with fail
  refine (fair_any n A m c xs _ (h.out.ext T) hm.out hmc).mono ?_
  rintro e w2 ⟨v, rfl, hO, hE⟩
  rw [← ha.out] at hO
  replace T := T.trans (hE.mono T.size)
  clear hE k10 k11 s1 X1
  obtain ⟨A3, c3, rfl, r3, hcc3, -⟩ := hO.rd
  obtain ⟨n3, e3⟩ : ∃ q, q = List.length a := ⟨_, rfl⟩
  rw [← e3] at hcc3 ⊢
  replace r3 := hide r3
  replace e3 := hide e3
  clear hO
  have hl3 : n3 ≤ 60 := by have := e3.out; omega
  have hl3b : n3 ≤ 1000000 := by omega
  go_upto_region 4 with fail
  obtain ⟨w4, hw⟩ : ∃ q, q = World.alloc w2 (.cells #[.int .i64 n, .slice A3 n3 c3] 24) := ⟨_, rfl⟩
  rw [← hw]
  have hE : Ext w2 w4 := by rw [hw]; exact (Below.refl _ _).alloc (Nat.le_refl _) _
  have X3 : Hid (BoxG w4 (World.heap w2).size n A3 n3 c3) := hide (by rw [hw]; exact BoxN.new _ _ _)
  clear hw
  obtain ⟨p3, hp⟩ : ∃ q, q = (World.heap w2).size := ⟨_, rfl⟩
  rw [← hp] at X3 ⊢
  clear hp
  replace r3 := hide (r3.out.ext hE)
  have hB := hide (T.trans (hE.mono T.size))
  clear hE T
  go_wp2
  go_loopw [14] (fun q wr => ∃ k : Nat, k ≤ n2 ∧ k ≤ 8 ∧ q = .int .i64 k ∧ Ext w4 wr) (fun q _ => n2 - (intOf q).toNat)
  case atStart => exact ⟨0, Nat.zero_le _, by omega, rfl, Below.refl _ _⟩
  case round =>
    obtain ⟨k, hk, hk8, rfl, T⟩ := hrel
    by_cases hlt : k < n2
    · have hlt' : (k : Int) < (n2 : Int) := by omega
      obtain ⟨⟨⟨B5, n5, c5⟩, l⟩, hx⟩ := get_some (xs := LL) (i := k) (by rw [← hn2.out]; exact hlt)
      obtain ⟨h21, h22⟩ := h2.out
      have hmem := List.mem_of_getElem? hx
      obtain ⟨hr5, he5, hc5, hm5⟩ := h22 _ hmem
      simp only at hr5 he5 hc5 hm5
      rcases h21 with h21 | ⟨bk, off, rfl, hbk, hcell⟩
      · rw [h21] at hx; simp at hx
      have hv := hcell k _ hx
      simp only at hv
      have TW := hB.out.trans (T.mono hB.out.size)
      have hv2 : wr.cell? ⟨bk, off + k, none⟩ = some (.slice B5 n5 c5) := (TW.cell (p := ⟨bk, off + k, none⟩) hbk).trans hv
      have hbw : bk < wr.heap.size := Nat.lt_of_lt_of_le hbk TW.size
      clear hcell h22 hv hmem
      replace hx := hide hx
      replace hr5 := hide hr5
      replace he5 := hide he5
      by_cases h8 : k = 8
      · have h8' : ((k : Int) == 8) = true := by rw [h8]; rfl
        replace h8 := hide h8
        have hfin := hide TW
        clear TW T
        go_wp2
        go_ret
        exact ⟨rfl, hfin.out⟩
      · have h8' : ((k : Int) == 8) = false := by simp; omega
        obtain ⟨ys, hys⟩ : ∃ ys, ys = l.take 310 := ⟨_, rfl⟩
        obtain ⟨k5, hk5⟩ : ∃ q, q = ys.length := ⟨_, rfl⟩
        have hk5b : k5 ≤ 310 ∧ k5 ≤ n5 ∧ k5 ≤ c5 := by
          have := he5.out
          rw [hk5, hys, List.length_take]
          omega
        have hmin : min (n5 : Int) 310 = (k5 : Int) := by
          have := he5.out
          rw [hk5, hys, List.length_take]
          omega
        obtain ⟨q1, q2, q3⟩ := hk5b
        have q4 : (k5 : Int) ≤ (c5 : Int) := by omega
        have hr6 : Hid (Rd intE w.heap.size w B5 ys) := hide (by rw [hys]; exact hr5.out.take 310)
        have hk7 : k ≤ 7 := by omega
        have ew : IntKind.i64.wrap ((k : Int) + 1) = (k : Int) + 1 := IntWalk.i64_in _ (by omega)
        replace h8 := hide h8
        replace hk5 := hide hk5
        replace hys := hide hys
        go_wp2_with fail
        refine (cloneI_any B5 k5 c5 ys _ (hr6.out.ext TW) hk5.out (by omega)).mono ?_
        rintro e w5 ⟨v, rfl, hO, hE⟩
        replace T := T.trans (hE.mono T.size)
        obtain ⟨A6, c6, rfl, r6, -, -⟩ := hO.rd
        rw [← hk5.out] at hO ⊢
        replace r6 := hide r6
        clear hO hE TW hv2 hbw
        have T5 := hide T
        clear T
        go_upto_region 9 with fail
        have X5 := X3.out.ext T5.out
        have k30 := X5.cell 0 (v := .int .i64 n) rfl
        have k31 := X5.cell 1 (v := .slice A3 n3 c3) rfl
        have s3 := X5.lt
        have r35 := hide (r3.out.ext T5.out)
        obtain ⟨y1, hy1⟩ : ∃ q, q = topR n a ys := ⟨_, rfl⟩
        have T : Ext w5 w5.drew := (Below.refl _ _).drew
        refine wp_region_mix (fun W => Below w5.heap.size w5 W) [(0, true), (1, true), (3, true), (2, false), (4, false), (5, true), (6, true), (7, true), (8, false), (9, true), (10, true)] (by kernel_rfl) (by kernel_rfl) (by kernel_rfl) (by kernel_rfl) (fun _ _ d _ _ h => by cases d <;> exact h) ?_ ?_
        · exact T
        obtain ⟨wl, hwh⟩ : ∃ x, x = w5.drew := ⟨_, rfl⟩
        rw [← hwh] at T ⊢
        clear hwh
        iterate 3
          apply mix_q rfl rfl
          · intro W hW
            have hcW := (bcell hW).1
            go_simp
            try exact rfl
          simp only [Act.put, List.setIfInBounds_toArray, List.set_cons_zero, List.set_cons_succ]
        refine mix_w rfl rfl (fun K hK => ?_)
        go_simp
        refine (right_any n A3 n3 c3 a A6 k5 c6 ys _ (r35.out.ext T) e3.out hl3b (r6.out.ext T) hk5.out).mono ?_
        rintro e wn ⟨rfl, hE⟩
        refine hK _ _ (T.trans (hE.mono T.size)) ?_
        clear hK K
        try simp only [Act.put, List.setIfInBounds_toArray, List.set_cons_zero, List.set_cons_succ]
        replace T := T.trans (hE.mono T.size)
        refine mix_w rfl rfl (fun K hK => ?_)
        go_simp
        refine (refRight_any n A3 n3 c3 a _ (r35.out.ext T) e3.out hl3b).mono ?_
        rintro e wn ⟨rfl, hE⟩
        refine hK _ _ (T.trans (hE.mono T.size)) ?_
        clear hK K
        try simp only [Act.put, List.setIfInBounds_toArray, List.set_cons_zero, List.set_cons_succ]
        replace T := T.trans (hE.mono T.size)
        rw [← hy1]
        cases hr : rightG n a with
        | false =>
          have v1 : Hid (y1 = false) := hide (by rw [hy1]; unfold topR; rw [hr]; rfl)
          rw [v1.out]
          replace hr := hide hr
          clear hy1
          iterate 1
            apply mix_q rfl rfl
            · intro W hW
              have hcW := (bcell hW).1
              go_simp
              try exact rfl
            simp only [Act.put, List.setIfInBounds_toArray, List.set_cons_zero, List.set_cons_succ]
          iterate 2
            refine mix_off rfl (wanted_is rfl rfl rfl rfl rfl) ?_
            simp only [Act.put, List.setIfInBounds_toArray, List.set_cons_zero, List.set_cons_succ]
          refine mix_woff rfl (wanted_is rfl rfl rfl rfl rfl) T ?_
          try simp only [Act.put, List.setIfInBounds_toArray, List.set_cons_zero, List.set_cons_succ]
          iterate 2
            apply mix_q rfl rfl
            · intro W hW
              have hcW := (bcell hW).1
              go_simp
              try exact rfl
            simp only [Act.put, List.setIfInBounds_toArray, List.set_cons_zero, List.set_cons_succ]
          refine mix_nil ?_
          have hE := T5.out.trans (T.mono T5.out.size)
          clear T X5 k30 k31 s3
          go_wp2
          refine ⟨?_, ?_⟩
          · first
              | exact ⟨k + 1, by omega, by omega, by first | omega | go_num, hE⟩
              | ((repeat apply Exists.intro); exact ⟨⟨k + 1, by omega, by omega, by first | omega | go_num, hE⟩, rfl⟩)
          · first | (simp [intOf, lenV]; omega) | (simp [intOf]; omega) | (simp [intOf]; done)
        | true =>
          obtain ⟨nn, rfl⟩ : ∃ nn : Nat, n = nn := ⟨n.toNat, by have := ((rightG_iff n a).1 hr).1; omega⟩
          have hnn : nn ≤ 300 := by have := ((rightG_iff _ a).1 hr).2.1; omega
          have v1 : Hid (refR nn a ys = y1) := hide (by rw [hy1]; unfold topR; rw [hr, Int.toNat_natCast]; rfl)
          replace hr := hide hr
          clear hy1
          iterate 1
            apply mix_q rfl rfl
            · intro W hW
              have hcW := (bcell hW).1
              go_simp
              try exact rfl
            simp only [Act.put, List.setIfInBounds_toArray, List.set_cons_zero, List.set_cons_succ]
          iterate 2
            apply mix_on rfl (wanted_is rfl rfl rfl rfl rfl)
            · intro W hW
              have hcW := (bcell hW).1
              go_simp
              try exact rfl
            simp only [Act.put, List.setIfInBounds_toArray, List.set_cons_zero, List.set_cons_succ]
          refine mix_won rfl (wanted_is rfl rfl rfl rfl rfl) (fun K hK => ?_)
          go_simp
          refine (refRight7_any nn A3 n3 c3 a A6 k5 c6 ys _ hnn (r35.out.ext T) e3.out hl3b (r6.out.ext T) hk5.out (by omega)).mono ?_
          rintro e wn ⟨rfl, hE⟩
          rw [v1.out]
          refine hK _ _ (T.trans (hE.mono T.size)) ?_
          clear hK K
          try simp only [Act.put, List.setIfInBounds_toArray, List.set_cons_zero, List.set_cons_succ]
          replace T := T.trans (hE.mono T.size)
          clear v1 hE
          cases y1 with
          | false =>
            iterate 2
              apply mix_q rfl rfl
              · intro W hW
                have hcW := (bcell hW).1
                go_simp
                try exact rfl
              simp only [Act.put, List.setIfInBounds_toArray, List.set_cons_zero, List.set_cons_succ]
            refine mix_nil ?_
            have hE := T5.out.trans (T.mono T5.out.size)
            clear T X5 k30 k31 s3
            go_wp2
            refine ⟨?_, ?_⟩
            · first
                | exact ⟨k + 1, by omega, by omega, by first | omega | go_num, hE⟩
                | ((repeat apply Exists.intro); exact ⟨⟨k + 1, by omega, by omega, by first | omega | go_num, hE⟩, rfl⟩)
            · first | (simp [intOf, lenV]; omega) | (simp [intOf]; omega) | (simp [intOf]; done)
          | true =>
            iterate 2
              apply mix_q rfl rfl
              · intro W hW
                have hcW := (bcell hW).1
                go_simp
                try exact rfl
              simp only [Act.put, List.setIfInBounds_toArray, List.set_cons_zero, List.set_cons_succ]
            refine mix_nil ?_
            have hE := T5.out.trans (T.mono T5.out.size)
            clear T X5 k30 k31 s3
            go_wp2
            refine ⟨?_, ?_⟩
            · first
                | exact ⟨k + 1, by omega, by omega, by first | omega | go_num, hE⟩
                | ((repeat apply Exists.intro); exact ⟨⟨k + 1, by omega, by omega, by first | omega | go_num, hE⟩, rfl⟩)
            · first | (simp [intOf, lenV]; omega) | (simp [intOf]; omega) | (simp [intOf]; done)
    · have hlt' : ¬ (k : Int) < (n2 : Int) := by omega
      have hfin := hide (hB.out.trans (T.mono hB.out.size))
      clear T
      go_wp2
      go_ret
      exact ⟨rfl, hfin.out⟩
end Go.Proofs.Ytepgpiolhiidiaa
