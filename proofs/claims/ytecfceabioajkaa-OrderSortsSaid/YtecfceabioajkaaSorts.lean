/- OrderSorts: rows sorted, and merged. -/
import Derived.Test.YtecfceabioajkaaLaw
import Derived.Test.YtecfceabioajkaaStore
namespace Go.Proofs.Ytecfceabioajkaa
open Go.RowKit

set_option maxHeartbeats 4000000 in
theorem orderSorts_any (A B : Option Addr) (n c n' c' : Nat) (xs ys : List (Int × Int)) (w : World) (hn : n = xs.length) (h : Rd pairE w.heap.size w A xs) (hc : n ≤ c) (hn' : n' = ys.length) (h' : Rd pairE w.heap.size w B ys) (hc' : n' ≤ c') :
    Calls Try.prog 4 #[.slice A n c, .slice B n' c'] w fun e w' => e = .returned (.bool true) ∧ Ext w w' := by
  replace hn := hide hn
  replace h := hide h
  replace hn' := hide hn'
  replace h' := hide h'
  go_enter Try.func4, Try.ntmps4
  go_wp2_with fail
  refine (wakes_any _).mono ?_
  rintro e w1 ⟨rfl, hE1⟩
  go_wp2_with fail
  refine (few_any A n c xs _ hn.out (h.out.ext hE1) hc).mono ?_
  rintro e w2 ⟨v, rfl, ho2, hE2⟩
  replace hE2 := hE1.trans (hE2.mono hE1.size)
  obtain ⟨A2, c2, rfl, rd2, hc2, -⟩ := ho2.rd
  obtain ⟨as_, has⟩ : ∃ l, l = xs.take 60 := ⟨_, rfl⟩
  rw [← has] at ho2 rd2 hc2 ⊢
  obtain ⟨m, hm⟩ : ∃ k, k = as_.length := ⟨_, rfl⟩
  rw [← hm] at hc2 ⊢
  have hm60 : m ≤ 60 := by rw [hm, has, List.length_take]; omega
  replace has := hide has
  replace hm := hide hm
  clear ho2
  replace rd2 := hide rd2
  go_wp2_with fail
  refine (few_any B n' c' ys _ hn'.out (h'.out.ext hE2) hc').mono ?_
  rintro e w3 ⟨v, rfl, ho3, hE3⟩
  have rdA := hide (rd2.out.ext hE3)
  replace hE3 := hE2.trans (hE3.mono hE2.size)
  obtain ⟨A3, c3, rfl, rdB, hc3, -⟩ := ho3.rd
  obtain ⟨bs, hbs⟩ : ∃ l, l = ys.take 60 := ⟨_, rfl⟩
  rw [← hbs] at ho3 rdB hc3 ⊢
  obtain ⟨l, hl⟩ : ∃ k, k = bs.length := ⟨_, rfl⟩
  rw [← hl] at hc3 ⊢
  have hl60 : l ≤ 60 := by rw [hl, hbs, List.length_take]; omega
  replace hbs := hide hbs
  replace hl := hide hl
  clear ho3 rd2
  replace rdB := hide rdB
  have rdX := hide (h.out.ext hE3)
  have rdY := hide (h'.out.ext hE3)
  clear h h' hE1 hE2
  go_wp2_with fail
  refine (sort_Pair A2 m c2 as_ _ hm.out rdA.out hc2 (by omega)).mono ?_
  rintro e w4 ⟨v, rfl, oP, hE4⟩
  obtain ⟨P, pc, rfl, rdP, hpc, -⟩ := oP.rd
  obtain ⟨ps, hps⟩ : ∃ l, l = isort ltP as_ := ⟨_, rfl⟩
  rw [← hps] at oP rdP hpc ⊢
  have hpl : ps.length = m := by rw [hps, length_isort, ← hm.out]
  rw [hpl] at oP hpc ⊢
  replace hps := hide hps
  replace hpl := hide hpl
  replace oP := hide oP
  replace rdP := hide rdP
  go_wp2_with fail
  refine (sort_Pair A3 l c3 bs _ hl.out (rdB.out.ext hE4) hc3 (by omega)).mono ?_
  rintro e w5 ⟨v, rfl, oQ, hE5⟩
  replace oP := hide (oP.out.ext hE5)
  replace rdP := hide (rdP.out.ext hE5)
  replace hE4 := hE4.trans (hE5.mono hE4.size)
  obtain ⟨Q, qc, rfl, rdQ, hqc, -⟩ := oQ.rd
  obtain ⟨qs, hqs⟩ : ∃ l, l = isort ltP bs := ⟨_, rfl⟩
  rw [← hqs] at oQ rdQ hqc ⊢
  have hql : qs.length = l := by rw [hqs, length_isort, ← hl.out]
  rw [hql] at hqc ⊢
  replace hqs := hide hqs
  replace hql := hide hql
  clear oQ hE5
  replace rdQ := hide rdQ
  go_wp2_with fail
  refine (few_any A n c xs _ hn.out (rdX.out.ext hE4) hc).mono ?_
  rintro e w6 ⟨v, rfl, o6, hE6⟩
  obtain ⟨A6, c6, rfl, rd6, hc6, -⟩ := o6.rd
  rw [← has.out] at rd6 hc6 ⊢
  rw [← hm.out] at hc6 ⊢
  clear o6
  replace rd6 := hide rd6
  go_wp2_with fail
  refine (refSort_any A6 m c6 as_ _ hm.out rd6.out (by omega)).mono ?_
  rintro e w7 ⟨v, rfl, o7, hE7⟩
  replace hE7 := hE6.trans (hE7.mono hE6.size)
  obtain ⟨A7, c7, rfl, rd7, hc7, -⟩ := o7.rd
  rw [← hps.out] at rd7 hc7 ⊢
  rw [hpl.out] at hc7 ⊢
  clear o7
  replace rd7 := hide rd7
  go_wp2_with fail
  refine (equal_Pair P A7 m pc m c7 ps ps _ hpl.out.symm (rdP.out.ext hE7) hpl.out.symm rd7.out (by omega)).mono ?_
  rintro e w8 ⟨rfl, hE8⟩
  rw [decide_eq_true rfl]
  replace hE8 := hE7.trans (hE8.mono hE7.size)
  clear hE6 hE7 rd6 rd7
  have hE38 := hE4.trans (hE8.mono hE4.size)
  go_wp2_with fail
  refine (few_any B n' c' ys _ hn'.out (rdY.out.ext hE38) hc').mono ?_
  rintro e w9 ⟨v, rfl, o9, hE9⟩
  obtain ⟨A9, c9, rfl, rd9, hc9, -⟩ := o9.rd
  rw [← hbs.out] at rd9 hc9 ⊢
  rw [← hl.out] at hc9 ⊢
  clear o9
  replace rd9 := hide rd9
  go_wp2_with fail
  refine (refSort_any A9 l c9 bs _ hl.out rd9.out (by omega)).mono ?_
  rintro e w10 ⟨v, rfl, o10, hE10⟩
  replace hE10 := hE9.trans (hE10.mono hE9.size)
  obtain ⟨A10, c10, rfl, rd10, hc10, -⟩ := o10.rd
  rw [← hqs.out] at rd10 hc10 ⊢
  rw [hql.out] at hc10 ⊢
  clear o10
  replace rd10 := hide rd10
  have hE5t := hE8.trans (hE10.mono hE8.size)
  go_wp2_with fail
  refine (equal_Pair Q A10 l qc l c10 qs qs _ hql.out.symm (rdQ.out.ext hE5t) hql.out.symm rd10.out (by omega)).mono ?_
  rintro e w11 ⟨rfl, hE11⟩
  rw [decide_eq_true rfl]
  replace hE11 := hE5t.trans (hE11.mono hE5t.size)
  clear hE8 hE38 hE9 hE10 hE5t rd9 rd10
  go_wp2_with fail
  refine (merge_Pair P Q m l pc qc ps qs _ hpl.out.symm hql.out.symm (rdP.out.ext hE11) (rdQ.out.ext hE11) hpc hqc (by omega) (by omega)).mono ?_
  rintro e w12 ⟨v, rfl, o12, hE12⟩
  replace hE12 := hE11.trans (hE12.mono hE11.size)
  obtain ⟨A12, c12, rfl, rd12, hc12, -⟩ := o12.rd
  rw [length_mrg, hpl.out, hql.out] at hc12 ⊢
  clear o12
  replace rd12 := hide rd12
  go_wp2_with fail
  refine (refMerge_any P Q m pc l qc ps qs _ hpl.out.symm (rdP.out.ext hE12) hql.out.symm (rdQ.out.ext hE12) (by omega)).mono ?_
  rintro e w13 ⟨v, rfl, o13, hE13⟩
  obtain ⟨A13, c13, rfl, rd13, hc13, -⟩ := o13.rd
  rw [length_isort, List.length_append, hpl.out, hql.out] at hc13 ⊢
  have hms : mrg ltP ps qs = isort ltP (ps ++ qs) := by
    have := mrg_isort swo_P ps qs
    rw [hps.out, hqs.out, isort_idem swo_P (srt_isort swo_P as_), isort_idem swo_P (srt_isort swo_P bs), ← hps.out, ← hqs.out] at this
    exact this
  rw [← hms] at rd13
  clear o13
  replace rd13 := hide rd13
  go_wp2_with fail
  refine (equal_Pair A12 A13 (m + l) c12 (m + l) c13 (mrg ltP ps qs) (mrg ltP ps qs) _ (by rw [length_mrg, hpl.out, hql.out]) (rd12.out.ext hE13) (by rw [length_mrg, hpl.out, hql.out]) rd13.out (by omega)).mono ?_
  rintro e w14 ⟨rfl, hE14⟩
  rw [decide_eq_true rfl]
  replace hE13 := hE12.trans (hE13.mono hE12.size)
  replace hE14 := hE13.trans (hE14.mono hE13.size)
  replace oP := hide (oP.out.ext hE14)
  replace hE14 := hE4.trans (hE14.mono hE4.size)
  clear hE4 hE11 hE12 hE13 rd12 rd13 hms rdP rdQ
  go_wp2
  go_loopw [51] (fun i wr => ∃ (k : Nat) (zs : List (Int × Int)), k ≤ m ∧ i = .int .i64 k ∧ Hid (zs.length = m) ∧ Hid (Own pairE 26 w3.heap.size wr (.slice P m pc) zs) ∧ Below w3.heap.size w3 wr) (fun i _ => m - (intOf i).toNat)
  case atStart => exact ⟨0, ps, Nat.zero_le _, rfl, hpl, oP, hE14⟩
  case round =>
    obtain ⟨k, zs, hk, rfl, hzl, oZ, hB⟩ := hrel
    by_cases hlt : k < m
    · obtain ⟨g, rfl, hg⟩ := oZ.out.place (by omega)
      obtain ⟨⟨p1, p2⟩, hx⟩ := get_some (xs := zs) (i := k) (by rw [hzl.out]; exact hlt)
      obtain ⟨hgs, hx1, hx2⟩ := oZ.out.pair hx
      have hfr := oZ.out.free (k * 2)
      have oZ' := oZ.out.put (k := k) (j := 0) (y := (wrap64 (p1 + 1), p2)) (u := .int .i64 (wrap64 (p1 + 1))) hx rfl (by decide)
      have hB' : Below w3.heap.size w3 (wr.setCell ⟨g, k * 2, none⟩ (.int .i64 (wrap64 (p1 + 1)))) := hB.setCell hg _
      replace oZ' := hide oZ'
      replace hx := hide hx
      go_wp2
      refine ⟨?_, ?_⟩
      · first
          | exact ⟨k + 1, zs.set k (wrap64 (p1 + 1), p2), by omega, by go_num, hide (by rw [List.length_set]; exact hzl.out), oZ', hB'⟩
          | ((repeat apply Exists.intro); exact ⟨⟨k + 1, zs.set k (wrap64 (p1 + 1), p2), by omega, by go_num, hide (by rw [List.length_set]; exact hzl.out), oZ', hB'⟩, rfl⟩)
      · first | (simp [intOf, lenV]; omega) | (simp [intOf]; omega)
    · clear oZ hzl oP
      obtain ⟨wo, rfl⟩ : ∃ wo : World, wo = wr := ⟨_, rfl⟩
      go_wp2
      clear hlt hk
      go_loopw [65] (fun i wr => ∃ k : Nat, k ≤ m ∧ i = .int .i64 k ∧ Below w3.heap.size w3 wr) (fun i _ => m - (intOf i).toNat)
      case atStart => exact ⟨0, Nat.zero_le _, rfl, hB⟩
      case round =>
        obtain ⟨k, hk, rfl, hB⟩ := hrel
        obtain ⟨wq, rfl⟩ : ∃ wq : World, wq = wr := ⟨_, rfl⟩
        obtain ⟨hc1, hf1⟩ := bcell hB
        have hsz := hB.size
        by_cases hlt : k < m
        · obtain ⟨b, off, rfl, hra⟩ := rdA.out.at_ (i := k) (by rw [← hm.out]; exact hlt)
          have hb1 := hra.1
          obtain ⟨⟨p1, p2⟩, hx⟩ := get_some (xs := as_) (i := k) (by rw [← hm.out]; exact hlt)
          obtain ⟨hx1, hx2⟩ := hra.pair hx
          have hkn : k < n := by
            have := hm.out
            rw [has.out, List.length_take, ← hn.out] at this
            omega
          obtain ⟨b', off', rfl, hra'⟩ := rdX.out.at_ (i := k) (by rw [← hn.out]; exact hkn)
          have hb1' := hra'.1
          have hx' : xs[k]? = some (p1, p2) := by
            rw [has.out, List.getElem?_take] at hx
            split at hx
            · exact hx
            · cases hx
          obtain ⟨hx1', hx2'⟩ := hra'.pair hx'
          replace hx := hide hx
          replace hx' := hide hx'
          replace hra := hide hra
          replace hra' := hide hra'
          go_wp2
          clear hc1 hf1
          go_loopw [72] (fun i wr => ∃ j : Nat, j ≤ l ∧ i = .int .i64 j ∧ Ext (wq.alloc (.cells #[.int .i64 p1, .int .i64 p2] 26)) wr) (fun i _ => l - (intOf i).toNat)
          case atStart => exact ⟨0, Nat.zero_le _, rfl, Below.refl _ _⟩
          case round =>
            obtain ⟨j, hj, rfl, hE⟩ := hrel
            have hA : Ext wq (wq.alloc (.cells #[.int .i64 p1, .int .i64 p2] 26)) := (Below.refl _ _).alloc (Nat.le_refl _) _
            have hEq : Ext wq wr := hA.trans (hE.mono (by simp))
            have hBr := hB.trans (hEq.mono hsz)
            have hs1 : wr.cell? ⟨wq.heap.size, 0, none⟩ = some (.int .i64 p1) := (hE.cell (p := ⟨wq.heap.size, 0, none⟩) (by simp)).trans (by simp)
            have hs2 : wr.cell? ⟨wq.heap.size, 1, none⟩ = some (.int .i64 p2) := (hE.cell (p := ⟨wq.heap.size, 1, none⟩) (by simp)).trans (by simp)
            have hqr : wq.heap.size < wr.heap.size := by have := hE.size; simp at this; omega
            obtain ⟨hc2, hf2⟩ := bcell hBr
            have hszr := hBr.size
            have hbr : b < wr.heap.size := by omega
            have hbr' : b' < wr.heap.size := by omega
            by_cases hlt2 : j < l
            · obtain ⟨b2, off2, rfl, hrb⟩ := rdB.out.at_ (i := j) (by rw [← hl.out]; exact hlt2)
              have hb2 := hrb.1
              obtain ⟨⟨q1, q2⟩, hy⟩ := get_some (xs := bs) (i := j) (by rw [← hl.out]; exact hlt2)
              obtain ⟨hy1, hy2⟩ := hrb.pair hy
              replace hy := hide hy
              replace hrb := hide hrb
              have hne : neP (p1, p2) (p1, p2) = false := by simp [neP]
              by_cases hlo : p1 < q1
              · have hcmp : cmpP (p1, p2) (q1, q2) = -1 := by simp [cmpP, cmpI, hlo]
                go_wp2
                refine wp_region_ext (by kernel_rfl) (by kernel_rfl) ?_
                iterate 2
                  apply ext_step rfl
                  · intro W hW
                    have hcW := (bcell hW).1
                    unfold Oper.quietAt
                    go_simp
                    exact rfl
                  simp only [Act.put, List.setIfInBounds_toArray, List.set_cons_zero, List.set_cons_succ]
                apply ext_step rfl
                · intro W hW
                  have hcW := (bcell hW).1
                  unfold Oper.quietAt
                  go_simp
                  exact (keys_ext _ _ _ _ _).mono fun e w' h => ⟨h.1, hW.trans (h.2.mono hW.size)⟩
                simp only [Act.put, List.setIfInBounds_toArray, List.set_cons_zero, List.set_cons_succ]
                iterate 3
                  apply ext_step rfl
                  · intro W hW
                    have hcW := (bcell hW).1
                    unfold Oper.quietAt
                    go_simp
                    exact rfl
                  simp only [Act.put, List.setIfInBounds_toArray, List.set_cons_zero, List.set_cons_succ]
                iterate 9
                  apply ext_step_on (wanted_is rfl rfl rfl rfl rfl)
                  · intro W hW
                    have hcW := (bcell hW).1
                    unfold Oper.quietAt
                    go_simp
                    exact rfl
                  simp only [Act.put, List.setIfInBounds_toArray, List.set_cons_zero, List.set_cons_succ]
                iterate 1
                  apply ext_step rfl
                  · intro W hW
                    have hcW := (bcell hW).1
                    unfold Oper.quietAt
                    go_simp
                    exact rfl
                  simp only [Act.put, List.setIfInBounds_toArray, List.set_cons_zero, List.set_cons_succ]
                refine wpQuiet_nil (fun w1 hB1 => ?_)
                have hE2 : Ext (wq.alloc (.cells #[.int .i64 p1, .int .i64 p2] 26)) w1 := hE.trans ((((Below.refl _ _).alloc (Nat.le_refl _) _).trans (hB1.mono (by simp))).mono hE.size)
                go_wp2
                refine ⟨?_, ?_⟩
                · first
                    | exact ⟨j + 1, by omega, by go_num, hE2⟩
                    | ((repeat apply Exists.intro); exact ⟨⟨j + 1, by omega, by go_num, hE2⟩, rfl⟩)
                · first | (simp [intOf, lenV]; omega) | (simp [intOf]; omega)
              · by_cases hhi : q1 < p1
                · have hcmp : cmpP (p1, p2) (q1, q2) = 1 := by simp [cmpP, cmpI, hhi]; omega
                  have hlo' : decide (p1 < q1) = false := by simp; omega
                  go_wp2
                  refine wp_region_ext (by kernel_rfl) (by kernel_rfl) ?_
                  iterate 2
                    apply ext_step rfl
                    · intro W hW
                      have hcW := (bcell hW).1
                      unfold Oper.quietAt
                      go_simp
                      exact rfl
                    simp only [Act.put, List.setIfInBounds_toArray, List.set_cons_zero, List.set_cons_succ]
                  apply ext_step rfl
                  · intro W hW
                    have hcW := (bcell hW).1
                    unfold Oper.quietAt
                    go_simp
                    exact (keys_ext _ _ _ _ _).mono fun e w' h => ⟨h.1, hW.trans (h.2.mono hW.size)⟩
                  simp only [Act.put, List.setIfInBounds_toArray, List.set_cons_zero, List.set_cons_succ]
                  iterate 3
                    apply ext_step rfl
                    · intro W hW
                      have hcW := (bcell hW).1
                      unfold Oper.quietAt
                      go_simp
                      exact rfl
                    simp only [Act.put, List.setIfInBounds_toArray, List.set_cons_zero, List.set_cons_succ]
                  iterate 9
                    apply ext_step_on (wanted_is rfl rfl rfl rfl rfl)
                    · intro W hW
                      have hcW := (bcell hW).1
                      unfold Oper.quietAt
                      go_simp
                      exact rfl
                    simp only [Act.put, List.setIfInBounds_toArray, List.set_cons_zero, List.set_cons_succ]
                  iterate 1
                    apply ext_step rfl
                    · intro W hW
                      have hcW := (bcell hW).1
                      unfold Oper.quietAt
                      go_simp
                      exact rfl
                    simp only [Act.put, List.setIfInBounds_toArray, List.set_cons_zero, List.set_cons_succ]
                  refine wpQuiet_nil (fun w1 hB1 => ?_)
                  have hE2 : Ext (wq.alloc (.cells #[.int .i64 p1, .int .i64 p2] 26)) w1 := hE.trans ((((Below.refl _ _).alloc (Nat.le_refl _) _).trans (hB1.mono (by simp))).mono hE.size)
                  go_wp2
                  refine ⟨?_, ?_⟩
                  · first
                      | exact ⟨j + 1, by omega, by go_num, hE2⟩
                      | ((repeat apply Exists.intro); exact ⟨⟨j + 1, by omega, by go_num, hE2⟩, rfl⟩)
                  · first | (simp [intOf, lenV]; omega) | (simp [intOf]; omega)
                · have hcmp : cmpP (p1, p2) (q1, q2) = 0 := by simp [cmpP, cmpI]; (repeat' split) <;> omega
                  go_wp2
                  refine wp_region_ext (by kernel_rfl) (by kernel_rfl) ?_
                  iterate 2
                    apply ext_step rfl
                    · intro W hW
                      have hcW := (bcell hW).1
                      unfold Oper.quietAt
                      go_simp
                      exact rfl
                    simp only [Act.put, List.setIfInBounds_toArray, List.set_cons_zero, List.set_cons_succ]
                  apply ext_step rfl
                  · intro W hW
                    have hcW := (bcell hW).1
                    unfold Oper.quietAt
                    go_simp
                    exact (keys_ext _ _ _ _ _).mono fun e w' h => ⟨h.1, hW.trans (h.2.mono hW.size)⟩
                  simp only [Act.put, List.setIfInBounds_toArray, List.set_cons_zero, List.set_cons_succ]
                  iterate 3
                    apply ext_step rfl
                    · intro W hW
                      have hcW := (bcell hW).1
                      unfold Oper.quietAt
                      go_simp
                      exact rfl
                    simp only [Act.put, List.setIfInBounds_toArray, List.set_cons_zero, List.set_cons_succ]
                  iterate 9
                    apply ext_step_on (wanted_is rfl rfl rfl rfl rfl)
                    · intro W hW
                      have hcW := (bcell hW).1
                      unfold Oper.quietAt
                      go_simp
                      exact rfl
                    simp only [Act.put, List.setIfInBounds_toArray, List.set_cons_zero, List.set_cons_succ]
                  iterate 1
                    apply ext_step rfl
                    · intro W hW
                      have hcW := (bcell hW).1
                      unfold Oper.quietAt
                      go_simp
                      exact rfl
                    simp only [Act.put, List.setIfInBounds_toArray, List.set_cons_zero, List.set_cons_succ]
                  refine wpQuiet_nil (fun w1 hB1 => ?_)
                  have hE2 : Ext (wq.alloc (.cells #[.int .i64 p1, .int .i64 p2] 26)) w1 := hE.trans ((((Below.refl _ _).alloc (Nat.le_refl _) _).trans (hB1.mono (by simp))).mono hE.size)
                  go_wp2
                  refine ⟨?_, ?_⟩
                  · first
                      | exact ⟨j + 1, by omega, by go_num, hE2⟩
                      | ((repeat apply Exists.intro); exact ⟨⟨j + 1, by omega, by go_num, hE2⟩, rfl⟩)
                  · first | (simp [intOf, lenV]; omega) | (simp [intOf]; omega)
            · go_wp2
              refine ⟨?_, ?_⟩
              · first
                  | exact ⟨k + 1, by omega, by go_num, hBr⟩
                  | ((repeat apply Exists.intro); exact ⟨⟨k + 1, by omega, by go_num, hBr⟩, rfl⟩)
              · first | (simp [intOf, lenV]; omega) | (simp [intOf]; omega)
        · clear hc1 hf1
          have rx := hide ((rdX.out.below hB).more hsz)
          have ra := hide ((rdA.out.below hB).more hsz)
          have hE3q : Ext w3 wq := hB
          have rb := hide ((rdB.out.below hB).more hsz)
          have ry := hide ((rdY.out.below hB).more hsz)
          go_wp2_with fail
          refine (few_any A n c xs _ hn.out rx.out hc).mono ?_
          rintro e w20 ⟨v, rfl, o20, hE20⟩
          obtain ⟨A20, c20, rfl, rd20, -, -⟩ := o20.rd
          rw [← has.out] at rd20 ⊢
          rw [← hm.out]
          clear o20
          replace rd20 := hide rd20
          go_wp2_with fail
          refine (equal_Pair A2 A20 m c2 m c20 as_ as_ _ hm.out (ra.out.ext hE20) hm.out rd20.out (by omega)).mono ?_
          rintro e w21 ⟨rfl, hE21⟩
          rw [decide_eq_true rfl]
          replace hE21 := hE20.trans (hE21.mono hE20.size)
          go_wp2_with fail
          refine (few_any B n' c' ys _ hn'.out (ry.out.ext hE21) hc').mono ?_
          rintro e w22 ⟨v, rfl, o22, hE22⟩
          obtain ⟨A22, c22, rfl, rd22, -, -⟩ := o22.rd
          rw [← hbs.out] at rd22 ⊢
          rw [← hl.out]
          clear o22
          replace rd22 := hide rd22
          replace hE22 := hE21.trans (hE22.mono hE21.size)
          go_wp2_with fail
          refine (equal_Pair A3 A22 l c3 l c22 bs bs _ hl.out (rb.out.ext hE22) hl.out rd22.out (by omega)).mono ?_
          rintro e w23 ⟨rfl, hE23⟩
          rw [decide_eq_true rfl]
          replace hE23 := hE22.trans (hE23.mono hE22.size)
          go_wp2
          go_ret
          exact ⟨rfl, hE3.trans ((hE3q.trans (hE23.mono hsz)).mono hE3.size)⟩
end Go.Proofs.Ytecfceabioajkaa
