/- OrderFinds: where numbers stand in rows, what is told once, and the least one. -/
import Derived.Test.YtecfceabioajkaaLaw
namespace Go.Proofs.Ytecfceabioajkaa
open Go.RowKit

set_option maxHeartbeats 1000000 in
theorem findsAsk_any (a b g n : Int) (bk : Nat) (w : World) (h : w.cell? ⟨bk, 0, none⟩ = some (.int .i64 n)) (hb : bk < w.heap.size) (hg : g = cmpP (a, b) (n, 0)) :
    Calls Try.prog 21 #[.agg #[.int .i64 a, .int .i64 b], .pointer (some ⟨bk, 0, none⟩)] w fun e w' => e = .returned (.int .i64 g) ∧ Ext w w' := by
  subst hg
  go_enter Try.func21, Try.ntmps21
  go_wp2_with fail
  refine (keys_ext _ _ _ _ _).mono ?_
  rintro e w1 ⟨rfl, hE⟩
  go_wp2
  go_ret
  exact ⟨rfl, ((Below.refl _ _).alloc (Nat.le_refl _) _).trans (hE.mono (by simp))⟩

/-- in a row in order, the place between is how many are below -/
theorem between_count {zs : List (Int × Int)} (hs : srt ltP zs) {n : Int} {k : Nat} (hk : Between (fun x => cmpP x (n, 0)) zs k) : (zs.countP fun x => decide (x.1 < n)) = k := by
  obtain ⟨h1, h2, h3⟩ := hk
  have hlt : ∀ x : Int × Int, cmpP x (n, 0) < 0 ↔ x.1 < n := fun x => by simp only [cmpP, cmpI]; (repeat' split) <;> omega
  have ha : ∀ x ∈ zs.take k, decide (x.1 < n) = true := by
    intro x hx
    obtain ⟨i, hi⟩ := List.getElem?_of_mem hx
    rw [List.getElem?_take] at hi
    split at hi
    · rename_i hik
      obtain ⟨y, hy⟩ := get_some (xs := zs) (i := k - 1) (by omega)
      have hyn := (hlt y).1 (h2 y (by omega) hy)
      by_cases he : i = k - 1
      · subst he
        rw [hi] at hy
        cases hy
        simpa using hyn
      · obtain ⟨h4, e4⟩ := List.getElem?_eq_some_iff.1 hi
        obtain ⟨h5, e5⟩ := List.getElem?_eq_some_iff.1 hy
        have := List.pairwise_iff_getElem.1 hs i (k - 1) h4 h5 (by omega)
        rw [e4, e5] at this
        simp [ltP, ltI] at this
        simp
        omega
    · cases hi
  have hb : ∀ x ∈ zs.drop k, ¬ decide (x.1 < n) = true := by
    intro x hx
    obtain ⟨i, hi⟩ := List.getElem?_of_mem hx
    rw [List.getElem?_drop] at hi
    have hkl : k < zs.length := by have := (List.getElem?_eq_some_iff.1 hi).1; omega
    obtain ⟨y, hy⟩ := get_some (xs := zs) (i := k) hkl
    have hyn : ¬ y.1 < n := fun h => by have h6 : 0 ≤ cmpP y (n, 0) := h3 y hy; have := (hlt y).2 h; omega
    by_cases he : i = 0
    · subst he
      rw [Nat.add_zero] at hi
      rw [hi] at hy
      cases hy
      simpa using hyn
    · obtain ⟨h4, e4⟩ := List.getElem?_eq_some_iff.1 hi
      obtain ⟨h5, e5⟩ := List.getElem?_eq_some_iff.1 hy
      have := List.pairwise_iff_getElem.1 hs k (k + i) h5 h4 (by omega)
      rw [e4, e5] at this
      simp [ltP, ltI] at this
      simp
      omega
  conv => lhs; rw [← List.take_append_drop k zs]
  rw [List.countP_append, List.countP_eq_length.2 ha, List.countP_eq_zero.2 hb, List.length_take]
  omega

set_option maxHeartbeats 4000000 in
theorem orderFinds_any (A : Option Addr) (n c : Nat) (xs : List (Int × Int)) (L : Option Addr) (m d : Nat) (ls : List Int) (w : World) (hn : n = xs.length) (h : Rd pairE w.heap.size w A xs) (hc : n ≤ c) (hm : m = ls.length) (h' : Rd intE w.heap.size w L ls) :
    Calls Try.prog 6 #[.slice A n c, .slice L m d] w fun e w' => e = .returned (.bool true) ∧ Ext w w' := by
  replace hn := hide hn
  replace h := hide h
  replace hm := hide hm
  replace h' := hide h'
  go_enter Try.func6, Try.ntmps6
  go_wp2_with fail
  refine (wakes_any _).mono ?_
  rintro e w1 ⟨rfl, hE1⟩
  go_wp2_with fail
  refine (few_any A n c xs _ hn.out (h.out.ext hE1) hc).mono ?_
  rintro e w2 ⟨v, rfl, ho2, hE2⟩
  replace hE2 := hE1.trans (hE2.mono hE1.size)
  obtain ⟨A2, c2, rfl, rd2, hc2, -⟩ := ho2.rd
  obtain ⟨as_, has⟩ : ∃ l, l = xs.take 60 := ⟨_, rfl⟩
  rw [← has] at ho2 rd2 hc2 ⊢
  obtain ⟨k, hk⟩ : ∃ k, k = as_.length := ⟨_, rfl⟩
  rw [← hk] at hc2 ⊢
  have hk60 : k ≤ 60 := by rw [hk, has, List.length_take]; omega
  replace has := hide has
  replace hk := hide hk
  clear ho2
  have rdX := hide (h.out.ext hE2)
  have rdL := hide (h'.out.ext hE2)
  replace rd2 := hide rd2
  clear h h' hE1
  go_wp2_with fail
  refine (least_Pair A2 k c2 as_ _ hk.out rd2.out (by omega)).mono ?_
  rintro e w3 ⟨rfl, hE3⟩
  go_wp2_with fail
  refine (refLeast_any A2 k c2 as_ _ hk.out (rd2.out.ext hE3) (by omega)).mono ?_
  rintro e w4 ⟨rfl, hE4⟩
  replace hE4 := hE3.trans (hE4.mono hE3.size)
  clear hE3
  obtain ⟨lst, hlst⟩ : ∃ l, l = leastTo ltP as_ k := ⟨_, rfl⟩
  obtain ⟨want, hwant⟩ : ∃ l, l = leastOr as_ k := ⟨_, rfl⟩
  rw [← hlst, ← hwant]
  have hcase : (k = 0 ∧ lst = 0 ∧ want = -1) ∨ (0 < k ∧ want = (lst : Int)) := by
    by_cases h0 : k = 0
    · exact .inl ⟨h0, by rw [hlst, h0]; rfl, by rw [hwant, leastOr, if_pos h0]⟩
    · exact .inr ⟨by omega, by rw [hwant, leastOr, if_neg h0, hlst]⟩
  clear hlst hwant
  obtain ⟨okb, hokb⟩ : ∃ b, b = decide (0 < k) := ⟨_, rfl⟩
  rw [← hokb]
  rcases hcase with ⟨h0, rfl, rfl⟩ | ⟨h0, rfl⟩
  · obtain rfl : okb = false := by rw [hokb, h0]; rfl
    clear hokb h0
    go_wp2_with fail
    have rd4 := hide (rd2.out.ext hE4)
    refine (unique_Pair A2 k c2 as_ _ hk.out rd4.out (by omega)).mono ?_
    rintro e w5 ⟨v, rfl, o5, hE5⟩
    obtain ⟨A5, c5, rfl, rd5, -, -⟩ := o5.rd
    clear o5
    have hul := uniq_len neP as_
    rw [← hk.out] at hul
    obtain ⟨us, hus⟩ : ∃ l, l = uniq neP as_ := ⟨_, rfl⟩
    rw [← hus] at rd5 hul ⊢
    obtain ⟨ul, hull⟩ : ∃ l, l = us.length := ⟨_, rfl⟩
    rw [← hull] at hul ⊢
    replace hus := hide hus
    replace hull := hide hull
    replace rd5 := hide rd5
    replace hE5 := hE4.trans (hE5.mono hE4.size)
    go_wp2_with fail
    refine (few_any A n c xs _ hn.out (rdX.out.ext hE5) hc).mono ?_
    rintro e w6 ⟨v, rfl, o6, hE6⟩
    obtain ⟨A6, c6, rfl, rd6, hc6, -⟩ := o6.rd
    rw [← has.out] at rd6 hc6 ⊢
    rw [← hk.out] at hc6 ⊢
    clear o6
    replace rd6 := hide rd6
    go_wp2_with fail
    refine (refUnique_any A6 k c6 as_ _ hk.out rd6.out (by omega)).mono ?_
    rintro e w7 ⟨v, rfl, o7, hE7⟩
    obtain ⟨A7, c7, rfl, rd7, -, -⟩ := o7.rd
    rw [← hus.out] at rd7 ⊢
    rw [← hull.out]
    clear o7
    replace rd7 := hide rd7
    replace hE7 := hE6.trans (hE7.mono hE6.size)
    go_wp2_with fail
    refine (equal_Pair A5 A7 ul c5 ul c7 us us _ hull.out (rd5.out.ext hE7) hull.out rd7.out (by omega)).mono ?_
    rintro e w8 ⟨rfl, hE8⟩
    rw [decide_eq_true rfl]
    replace hE8 := hE7.trans (hE8.mono hE7.size)
    replace hE8 := hE5.trans (hE8.mono hE5.size)
    clear hE5 hE6 hE7 rd5 rd6 rd7
    go_wp2_with fail
    refine (few_any A n c xs _ hn.out (rdX.out.ext hE8) hc).mono ?_
    rintro e w9 ⟨v, rfl, o9, hE9⟩
    obtain ⟨A9, c9, rfl, rd9, hc9, -⟩ := o9.rd
    rw [← has.out] at rd9 hc9 ⊢
    rw [← hk.out] at hc9 ⊢
    clear o9
    replace rd9 := hide rd9
    replace hE9 := hE8.trans (hE9.mono hE8.size)
    go_wp2_with fail
    refine (refSort_any A9 k c9 as_ _ hk.out rd9.out (by omega)).mono ?_
    rintro e w10 ⟨v, rfl, o10, hE10⟩
    obtain ⟨A10, c10, rfl, rd10, hc10, -⟩ := o10.rd
    obtain ⟨zs, hzs⟩ : ∃ l, l = isort ltP as_ := ⟨_, rfl⟩
    rw [← hzs] at rd10 hc10 ⊢
    have hzl : zs.length = k := by rw [hzs, length_isort, ← hk.out]
    rw [hzl] at hc10 ⊢
    have hss := hide (show srt ltP zs by rw [hzs]; exact srt_isort swo_P as_)
    clear o10 hzs hE8 rd9
    replace hzl := hide hzl
    replace rd10 := hide rd10
    replace hE10 := hE9.trans (hE10.mono hE9.size)
    clear hE9 hE4 rd4
    have h210 : Below w.heap.size w w10 := hE2.trans (hE10.mono hE2.size)
    have rdL10 := hide (rdL.out.ext hE10)
    go_wp2
    go_loopw [59] (fun i wr => ∃ j : Nat, j ≤ m ∧ j ≤ 20 ∧ i = .int .i64 j ∧ Ext w10 wr) (fun i _ => m - (intOf i).toNat)
    case atStart => exact ⟨0, Nat.zero_le _, Nat.zero_le _, rfl, Below.refl _ _⟩
    case round =>
      obtain ⟨j, hj, hj20, rfl, hB⟩ := hrel
      obtain ⟨hcc, hff⟩ := bcell hB
      have hsz := hB.size
      obtain ⟨wo, rfl⟩ : ∃ wo : World, wo = wr := ⟨_, rfl⟩
      by_cases hlt : j < m
      · obtain ⟨b, off, rfl, hra⟩ := rdL10.out.at_ (i := j) (by rw [← hm.out]; exact hlt)
        have hb1 := hra.1
        obtain ⟨q, hx⟩ := get_some (xs := ls) (i := j) (by rw [← hm.out]; exact hlt)
        have hx1 := hra.int hx
        replace hx := hide hx
        replace hra := hide hra
        by_cases h20 : j = 20
        · subst h20
          go_wp2_with fail
          have hX := hE10.trans ((hB.alloc hsz (.cells #[.int .i64 q] 3)).mono hE10.size)
          refine (few_any A n c xs _ hn.out (rdX.out.ext hX) hc).mono ?_
          rintro e w20 ⟨v, rfl, o20, hE20⟩
          obtain ⟨A20, c20, rfl, rd20, -, -⟩ := o20.rd
          rw [← has.out] at rd20 ⊢
          rw [← hk.out]
          clear o20
          replace rd20 := hide rd20
          go_wp2_with fail
          refine (equal_Pair A2 A20 k c2 k c20 as_ as_ _ hk.out ((rd2.out.ext hX).ext hE20) hk.out rd20.out (by omega)).mono ?_
          rintro e w21 ⟨rfl, hE21⟩
          rw [decide_eq_true rfl]
          replace hE21 := hE20.trans (hE21.mono hE20.size)
          go_wp2
          go_ret
          exact ⟨rfl, hE2.trans ((hX.trans (hE21.mono hX.size)).mono hE2.size)⟩
        · have h20' : ((j : Int) == 20) = false := by simp; omega
          have hEb : Ext w10 (wo.alloc (.cells #[.int .i64 q] 3)) := hB.alloc hsz _
          go_wp2_with fail
          refine (found_Pair A10 k c10 21 #[.pointer (some ⟨wo.heap.size, 0, none⟩)] (fun x => cmpP x (q, 0)) zs _ hzl.out.symm (rd10.out.ext hEb) (by omega) ⟨fun args W => by simp [callFunc, show Try.prog.funcs[21]? = some Try.f21 from by kernel_rfl]; rfl, fun p1 p2 W hW => findsAsk_any p1 p2 _ q wo.heap.size W ((hW.cell (p := ⟨wo.heap.size, 0, none⟩) (by simp)).trans (by simp)) (by have := hW.size; simp at this; omega) rfl⟩).mono ?_
          rintro e w11 ⟨kk, hbt, rfl, hE11⟩
          have hcnt := between_count hss.out hbt
          have hkk := hbt.1
          rw [hzl.out] at hkk
          replace hcnt := hide hcnt
          clear hbt
          have hE11' := hEb.trans (hE11.mono hEb.size)
          have rd11 := hide (rd10.out.ext hE11')
          have hq11 : w11.cell? ⟨wo.heap.size, 0, none⟩ = some (.int .i64 q) := (hE11.cell (p := ⟨wo.heap.size, 0, none⟩) (by simp)).trans (by simp)
          have hs11 : wo.heap.size < w11.heap.size := by have := hE11.size; simp at this; omega
          obtain ⟨tb, htb⟩ : ∃ b, b = foundB (fun x => cmpP x (q, 0)) zs kk := ⟨_, rfl⟩
          rw [← htb]
          replace htb := hide htb
          go_wp2_with fail
          refine (refBelow_any A10 k c10 zs q _ hzl.out.symm rd11.out (by omega)).mono ?_
          rintro e w12 ⟨rfl, hE12⟩
          rw [hcnt.out]
          obtain ⟨hc12, hf12⟩ := bcell hE12
          have hE12' := hE11'.trans (hE12.mono hE11'.size)
          have hs12 : wo.heap.size < w12.heap.size := by have := hE12.size; omega
          by_cases hkz : kk < k
          · obtain ⟨b3, off3, rfl, hr3⟩ := rd11.out.at_ (i := kk) (by rw [hzl.out]; exact hkz)
            have hb3 := hr3.1
            obtain ⟨⟨y1, y2⟩, hy⟩ := get_some (xs := zs) (i := kk) (by rw [hzl.out]; exact hkz)
            obtain ⟨hy1, hy2⟩ := hr3.pair hy
            have htb' : tb = (y1 == q) := by rw [htb.out, foundB_some hy]; exact cmpI_eq y1 q
            clear htb
            subst htb'
            replace hy := hide hy
            replace hr3 := hide hr3
            have g1 : decide ((kk : Int) < (k : Int)) = true := by simp; omega
            have g2 : (kk : Int) < (k : Int) := by omega
            go_wp2
            refine wp_region_reads [(0, true), (1, true), (2, true), (3, true), (4, true), (5, true), (6, true), (7, true), (8, true), (9, true), (10, true), (11, true), (12, true), (13, true), (14, true), (15, true), (16, true), (17, true), (18, true), (19, true)] (by kernel_rfl) (by kernel_rfl) (by kernel_rfl) (by kernel_rfl) (fun _ _ d _ _ h => by cases d <;> exact h) ?_
            iterate 4
              apply mix_q rfl rfl
              · intro W hW
                subst hW
                go_simp
                try exact rfl
              simp only [Act.put, List.setIfInBounds_toArray, List.set_cons_zero, List.set_cons_succ]
            iterate 15
              apply mix_on rfl (wanted_is rfl rfl rfl rfl rfl)
              · intro W hW
                subst hW
                go_simp
                try exact rfl
              simp only [Act.put, List.setIfInBounds_toArray, List.set_cons_zero, List.set_cons_succ]
            iterate 1
              apply mix_q rfl rfl
              · intro W hW
                subst hW
                go_simp
                try exact rfl
              simp only [Act.put, List.setIfInBounds_toArray, List.set_cons_zero, List.set_cons_succ]
            refine mix_nil ?_
            go_wp2
            refine ⟨?_, ?_⟩
            · first
                | exact ⟨j + 1, by omega, by omega, by go_num, hE12'.drew⟩
                | ((repeat apply Exists.intro); exact ⟨⟨j + 1, by omega, by omega, by go_num, hE12'.drew⟩, rfl⟩)
            · first | (simp [intOf, lenV]; omega) | (simp [intOf]; omega)
          · obtain rfl : kk = k := by omega
            have htb' : tb = false := by rw [htb.out]; exact foundB_none (by rw [hzl.out]; exact Nat.le_refl _)
            clear htb
            subst htb'
            go_wp2
            refine wp_region_reads [(0, true), (1, true), (2, true), (3, true), (4, true), (5, true), (6, true), (7, true), (8, true), (9, true), (10, true), (11, true), (12, true), (13, true), (14, true), (15, true), (16, true), (17, true), (18, true), (19, true)] (by kernel_rfl) (by kernel_rfl) (by kernel_rfl) (by kernel_rfl) (fun _ _ d _ _ h => by cases d <;> exact h) ?_
            iterate 4
              apply mix_q rfl rfl
              · intro W hW
                subst hW
                go_simp
                try exact rfl
              simp only [Act.put, List.setIfInBounds_toArray, List.set_cons_zero, List.set_cons_succ]
            iterate 6
              apply mix_on rfl (wanted_is rfl rfl rfl rfl rfl)
              · intro W hW
                subst hW
                go_simp
                try exact rfl
              simp only [Act.put, List.setIfInBounds_toArray, List.set_cons_zero, List.set_cons_succ]
            iterate 7
              refine mix_off rfl (wanted_is rfl rfl rfl rfl rfl) ?_
              simp only [Act.put, List.setIfInBounds_toArray, List.set_cons_zero, List.set_cons_succ]
            iterate 2
              apply mix_on rfl (wanted_is rfl rfl rfl rfl rfl)
              · intro W hW
                subst hW
                go_simp
                try exact rfl
              simp only [Act.put, List.setIfInBounds_toArray, List.set_cons_zero, List.set_cons_succ]
            iterate 1
              apply mix_q rfl rfl
              · intro W hW
                subst hW
                go_simp
                try exact rfl
              simp only [Act.put, List.setIfInBounds_toArray, List.set_cons_zero, List.set_cons_succ]
            refine mix_nil ?_
            go_wp2
            refine ⟨?_, ?_⟩
            · first
                | exact ⟨j + 1, by omega, by omega, by go_num, hE12'.drew⟩
                | ((repeat apply Exists.intro); exact ⟨⟨j + 1, by omega, by omega, by go_num, hE12'.drew⟩, rfl⟩)
            · first | (simp [intOf, lenV]; omega) | (simp [intOf]; omega)
      · go_wp2_with fail
        have hX := hE10.trans (hB.mono hE10.size)
        refine (few_any A n c xs _ hn.out (rdX.out.ext hX) hc).mono ?_
        rintro e w20 ⟨v, rfl, o20, hE20⟩
        obtain ⟨A20, c20, rfl, rd20, -, -⟩ := o20.rd
        rw [← has.out] at rd20 ⊢
        rw [← hk.out]
        clear o20
        replace rd20 := hide rd20
        go_wp2_with fail
        refine (equal_Pair A2 A20 k c2 k c20 as_ as_ _ hk.out ((rd2.out.ext hX).ext hE20) hk.out rd20.out (by omega)).mono ?_
        rintro e w21 ⟨rfl, hE21⟩
        rw [decide_eq_true rfl]
        replace hE21 := hE20.trans (hE21.mono hE20.size)
        go_wp2
        go_ret
        exact ⟨rfl, hE2.trans ((hX.trans (hE21.mono hX.size)).mono hE2.size)⟩
  · obtain rfl : okb = true := by rw [hokb]; simpa using h0
    clear hokb h0
    go_wp2_with fail
    have rd4 := hide (rd2.out.ext hE4)
    refine (unique_Pair A2 k c2 as_ _ hk.out rd4.out (by omega)).mono ?_
    rintro e w5 ⟨v, rfl, o5, hE5⟩
    obtain ⟨A5, c5, rfl, rd5, -, -⟩ := o5.rd
    clear o5
    have hul := uniq_len neP as_
    rw [← hk.out] at hul
    obtain ⟨us, hus⟩ : ∃ l, l = uniq neP as_ := ⟨_, rfl⟩
    rw [← hus] at rd5 hul ⊢
    obtain ⟨ul, hull⟩ : ∃ l, l = us.length := ⟨_, rfl⟩
    rw [← hull] at hul ⊢
    replace hus := hide hus
    replace hull := hide hull
    replace rd5 := hide rd5
    replace hE5 := hE4.trans (hE5.mono hE4.size)
    go_wp2_with fail
    refine (few_any A n c xs _ hn.out (rdX.out.ext hE5) hc).mono ?_
    rintro e w6 ⟨v, rfl, o6, hE6⟩
    obtain ⟨A6, c6, rfl, rd6, hc6, -⟩ := o6.rd
    rw [← has.out] at rd6 hc6 ⊢
    rw [← hk.out] at hc6 ⊢
    clear o6
    replace rd6 := hide rd6
    go_wp2_with fail
    refine (refUnique_any A6 k c6 as_ _ hk.out rd6.out (by omega)).mono ?_
    rintro e w7 ⟨v, rfl, o7, hE7⟩
    obtain ⟨A7, c7, rfl, rd7, -, -⟩ := o7.rd
    rw [← hus.out] at rd7 ⊢
    rw [← hull.out]
    clear o7
    replace rd7 := hide rd7
    replace hE7 := hE6.trans (hE7.mono hE6.size)
    go_wp2_with fail
    refine (equal_Pair A5 A7 ul c5 ul c7 us us _ hull.out (rd5.out.ext hE7) hull.out rd7.out (by omega)).mono ?_
    rintro e w8 ⟨rfl, hE8⟩
    rw [decide_eq_true rfl]
    replace hE8 := hE7.trans (hE8.mono hE7.size)
    replace hE8 := hE5.trans (hE8.mono hE5.size)
    clear hE5 hE6 hE7 rd5 rd6 rd7
    go_wp2_with fail
    refine (few_any A n c xs _ hn.out (rdX.out.ext hE8) hc).mono ?_
    rintro e w9 ⟨v, rfl, o9, hE9⟩
    obtain ⟨A9, c9, rfl, rd9, hc9, -⟩ := o9.rd
    rw [← has.out] at rd9 hc9 ⊢
    rw [← hk.out] at hc9 ⊢
    clear o9
    replace rd9 := hide rd9
    replace hE9 := hE8.trans (hE9.mono hE8.size)
    go_wp2_with fail
    refine (refSort_any A9 k c9 as_ _ hk.out rd9.out (by omega)).mono ?_
    rintro e w10 ⟨v, rfl, o10, hE10⟩
    obtain ⟨A10, c10, rfl, rd10, hc10, -⟩ := o10.rd
    obtain ⟨zs, hzs⟩ : ∃ l, l = isort ltP as_ := ⟨_, rfl⟩
    rw [← hzs] at rd10 hc10 ⊢
    have hzl : zs.length = k := by rw [hzs, length_isort, ← hk.out]
    rw [hzl] at hc10 ⊢
    have hss := hide (show srt ltP zs by rw [hzs]; exact srt_isort swo_P as_)
    clear o10 hzs hE8 rd9
    replace hzl := hide hzl
    replace rd10 := hide rd10
    replace hE10 := hE9.trans (hE10.mono hE9.size)
    clear hE9 hE4 rd4
    have h210 : Below w.heap.size w w10 := hE2.trans (hE10.mono hE2.size)
    have rdL10 := hide (rdL.out.ext hE10)
    go_wp2
    go_loopw [59] (fun i wr => ∃ j : Nat, j ≤ m ∧ j ≤ 20 ∧ i = .int .i64 j ∧ Ext w10 wr) (fun i _ => m - (intOf i).toNat)
    case atStart => exact ⟨0, Nat.zero_le _, Nat.zero_le _, rfl, Below.refl _ _⟩
    case round =>
      obtain ⟨j, hj, hj20, rfl, hB⟩ := hrel
      obtain ⟨hcc, hff⟩ := bcell hB
      have hsz := hB.size
      obtain ⟨wo, rfl⟩ : ∃ wo : World, wo = wr := ⟨_, rfl⟩
      by_cases hlt : j < m
      · obtain ⟨b, off, rfl, hra⟩ := rdL10.out.at_ (i := j) (by rw [← hm.out]; exact hlt)
        have hb1 := hra.1
        obtain ⟨q, hx⟩ := get_some (xs := ls) (i := j) (by rw [← hm.out]; exact hlt)
        have hx1 := hra.int hx
        replace hx := hide hx
        replace hra := hide hra
        by_cases h20 : j = 20
        · subst h20
          go_wp2_with fail
          have hX := hE10.trans ((hB.alloc hsz (.cells #[.int .i64 q] 3)).mono hE10.size)
          refine (few_any A n c xs _ hn.out (rdX.out.ext hX) hc).mono ?_
          rintro e w20 ⟨v, rfl, o20, hE20⟩
          obtain ⟨A20, c20, rfl, rd20, -, -⟩ := o20.rd
          rw [← has.out] at rd20 ⊢
          rw [← hk.out]
          clear o20
          replace rd20 := hide rd20
          go_wp2_with fail
          refine (equal_Pair A2 A20 k c2 k c20 as_ as_ _ hk.out ((rd2.out.ext hX).ext hE20) hk.out rd20.out (by omega)).mono ?_
          rintro e w21 ⟨rfl, hE21⟩
          rw [decide_eq_true rfl]
          replace hE21 := hE20.trans (hE21.mono hE20.size)
          go_wp2
          go_ret
          exact ⟨rfl, hE2.trans ((hX.trans (hE21.mono hX.size)).mono hE2.size)⟩
        · have h20' : ((j : Int) == 20) = false := by simp; omega
          have hEb : Ext w10 (wo.alloc (.cells #[.int .i64 q] 3)) := hB.alloc hsz _
          go_wp2_with fail
          refine (found_Pair A10 k c10 21 #[.pointer (some ⟨wo.heap.size, 0, none⟩)] (fun x => cmpP x (q, 0)) zs _ hzl.out.symm (rd10.out.ext hEb) (by omega) ⟨fun args W => by simp [callFunc, show Try.prog.funcs[21]? = some Try.f21 from by kernel_rfl]; rfl, fun p1 p2 W hW => findsAsk_any p1 p2 _ q wo.heap.size W ((hW.cell (p := ⟨wo.heap.size, 0, none⟩) (by simp)).trans (by simp)) (by have := hW.size; simp at this; omega) rfl⟩).mono ?_
          rintro e w11 ⟨kk, hbt, rfl, hE11⟩
          have hcnt := between_count hss.out hbt
          have hkk := hbt.1
          rw [hzl.out] at hkk
          replace hcnt := hide hcnt
          clear hbt
          have hE11' := hEb.trans (hE11.mono hEb.size)
          have rd11 := hide (rd10.out.ext hE11')
          have hq11 : w11.cell? ⟨wo.heap.size, 0, none⟩ = some (.int .i64 q) := (hE11.cell (p := ⟨wo.heap.size, 0, none⟩) (by simp)).trans (by simp)
          have hs11 : wo.heap.size < w11.heap.size := by have := hE11.size; simp at this; omega
          obtain ⟨tb, htb⟩ : ∃ b, b = foundB (fun x => cmpP x (q, 0)) zs kk := ⟨_, rfl⟩
          rw [← htb]
          replace htb := hide htb
          go_wp2_with fail
          refine (refBelow_any A10 k c10 zs q _ hzl.out.symm rd11.out (by omega)).mono ?_
          rintro e w12 ⟨rfl, hE12⟩
          rw [hcnt.out]
          obtain ⟨hc12, hf12⟩ := bcell hE12
          have hE12' := hE11'.trans (hE12.mono hE11'.size)
          have hs12 : wo.heap.size < w12.heap.size := by have := hE12.size; omega
          by_cases hkz : kk < k
          · obtain ⟨b3, off3, rfl, hr3⟩ := rd11.out.at_ (i := kk) (by rw [hzl.out]; exact hkz)
            have hb3 := hr3.1
            obtain ⟨⟨y1, y2⟩, hy⟩ := get_some (xs := zs) (i := kk) (by rw [hzl.out]; exact hkz)
            obtain ⟨hy1, hy2⟩ := hr3.pair hy
            have htb' : tb = (y1 == q) := by rw [htb.out, foundB_some hy]; exact cmpI_eq y1 q
            clear htb
            subst htb'
            replace hy := hide hy
            replace hr3 := hide hr3
            have g1 : decide ((kk : Int) < (k : Int)) = true := by simp; omega
            have g2 : (kk : Int) < (k : Int) := by omega
            go_wp2
            refine wp_region_reads [(0, true), (1, true), (2, true), (3, true), (4, true), (5, true), (6, true), (7, true), (8, true), (9, true), (10, true), (11, true), (12, true), (13, true), (14, true), (15, true), (16, true), (17, true), (18, true), (19, true)] (by kernel_rfl) (by kernel_rfl) (by kernel_rfl) (by kernel_rfl) (fun _ _ d _ _ h => by cases d <;> exact h) ?_
            iterate 4
              apply mix_q rfl rfl
              · intro W hW
                subst hW
                go_simp
                try exact rfl
              simp only [Act.put, List.setIfInBounds_toArray, List.set_cons_zero, List.set_cons_succ]
            iterate 15
              apply mix_on rfl (wanted_is rfl rfl rfl rfl rfl)
              · intro W hW
                subst hW
                go_simp
                try exact rfl
              simp only [Act.put, List.setIfInBounds_toArray, List.set_cons_zero, List.set_cons_succ]
            iterate 1
              apply mix_q rfl rfl
              · intro W hW
                subst hW
                go_simp
                try exact rfl
              simp only [Act.put, List.setIfInBounds_toArray, List.set_cons_zero, List.set_cons_succ]
            refine mix_nil ?_
            go_wp2
            refine ⟨?_, ?_⟩
            · first
                | exact ⟨j + 1, by omega, by omega, by go_num, hE12'.drew⟩
                | ((repeat apply Exists.intro); exact ⟨⟨j + 1, by omega, by omega, by go_num, hE12'.drew⟩, rfl⟩)
            · first | (simp [intOf, lenV]; omega) | (simp [intOf]; omega)
          · obtain rfl : kk = k := by omega
            have htb' : tb = false := by rw [htb.out]; exact foundB_none (by rw [hzl.out]; exact Nat.le_refl _)
            clear htb
            subst htb'
            go_wp2
            refine wp_region_reads [(0, true), (1, true), (2, true), (3, true), (4, true), (5, true), (6, true), (7, true), (8, true), (9, true), (10, true), (11, true), (12, true), (13, true), (14, true), (15, true), (16, true), (17, true), (18, true), (19, true)] (by kernel_rfl) (by kernel_rfl) (by kernel_rfl) (by kernel_rfl) (fun _ _ d _ _ h => by cases d <;> exact h) ?_
            iterate 4
              apply mix_q rfl rfl
              · intro W hW
                subst hW
                go_simp
                try exact rfl
              simp only [Act.put, List.setIfInBounds_toArray, List.set_cons_zero, List.set_cons_succ]
            iterate 6
              apply mix_on rfl (wanted_is rfl rfl rfl rfl rfl)
              · intro W hW
                subst hW
                go_simp
                try exact rfl
              simp only [Act.put, List.setIfInBounds_toArray, List.set_cons_zero, List.set_cons_succ]
            iterate 7
              refine mix_off rfl (wanted_is rfl rfl rfl rfl rfl) ?_
              simp only [Act.put, List.setIfInBounds_toArray, List.set_cons_zero, List.set_cons_succ]
            iterate 2
              apply mix_on rfl (wanted_is rfl rfl rfl rfl rfl)
              · intro W hW
                subst hW
                go_simp
                try exact rfl
              simp only [Act.put, List.setIfInBounds_toArray, List.set_cons_zero, List.set_cons_succ]
            iterate 1
              apply mix_q rfl rfl
              · intro W hW
                subst hW
                go_simp
                try exact rfl
              simp only [Act.put, List.setIfInBounds_toArray, List.set_cons_zero, List.set_cons_succ]
            refine mix_nil ?_
            go_wp2
            refine ⟨?_, ?_⟩
            · first
                | exact ⟨j + 1, by omega, by omega, by go_num, hE12'.drew⟩
                | ((repeat apply Exists.intro); exact ⟨⟨j + 1, by omega, by omega, by go_num, hE12'.drew⟩, rfl⟩)
            · first | (simp [intOf, lenV]; omega) | (simp [intOf]; omega)
      · go_wp2_with fail
        have hX := hE10.trans (hB.mono hE10.size)
        refine (few_any A n c xs _ hn.out (rdX.out.ext hX) hc).mono ?_
        rintro e w20 ⟨v, rfl, o20, hE20⟩
        obtain ⟨A20, c20, rfl, rd20, -, -⟩ := o20.rd
        rw [← has.out] at rd20 ⊢
        rw [← hk.out]
        clear o20
        replace rd20 := hide rd20
        go_wp2_with fail
        refine (equal_Pair A2 A20 k c2 k c20 as_ as_ _ hk.out ((rd2.out.ext hX).ext hE20) hk.out rd20.out (by omega)).mono ?_
        rintro e w21 ⟨rfl, hE21⟩
        rw [decide_eq_true rfl]
        replace hE21 := hE20.trans (hE21.mono hE20.size)
        go_wp2
        go_ret
        exact ⟨rfl, hE2.trans ((hX.trans (hE21.mono hX.size)).mono hE2.size)⟩
end Go.Proofs.Ytecfceabioajkaa
