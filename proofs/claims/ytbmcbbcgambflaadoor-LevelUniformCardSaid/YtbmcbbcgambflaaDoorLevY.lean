/- LevelUniform: uniform assignments, and another level at a place. -/
import Derived.Test.YtbmcbbcgambflaaDoorLevX
namespace Go.Proofs.YtbmcbbcgambflaaDoor
open Go.RowKit

theorem uni_allL {n : Nat} {l : Int} (h : lvl l = true) : allL (List.replicate n l) = true := by
  unfold allL
  rw [List.all_eq_true]
  intro x hx
  rw [List.eq_of_mem_replicate hx]
  exact h
theorem low_le : ∀ {xs : List Int}, allL xs = true → LeL (List.replicate xs.length 1) xs
  | [], _ => trivial
  | x :: xs, h => by
    rw [allL_cons] at h
    obtain ⟨a1, a2⟩ := lvl_of h.1
    exact ⟨a1, low_le h.2⟩
theorem le_high : ∀ {xs : List Int}, allL xs = true → LeL xs (List.replicate xs.length 4)
  | [], _ => trivial
  | x :: xs, h => by
    rw [allL_cons] at h
    obtain ⟨a1, a2⟩ := lvl_of h.1
    exact ⟨a2, le_high h.2⟩
theorem uniE_small {n : Nat} {l : Int} (h : n ≤ 40) (hl : lvl l = true) : uniE n l = 0 := by
  unfold uniE
  rw [if_neg (by omega), chk_in hl]
theorem uniL_small {n : Nat} {l : Int} (h : n ≤ 40) (hl : lvl l = true) : uniL n l = List.replicate n l := by
  unfold uniL
  rw [if_pos (uniE_small h hl)]
  rfl
theorem uni_low {xs : List Int} (h : allL xs = true) : eachE (List.replicate xs.length 1) xs = 0 ∧ isBelow (List.replicate xs.length 1) xs = true :=
  ⟨eachE_zero.2 ⟨uni_allL (by decide), h, List.length_replicate⟩, isBelow_iff.2 ⟨uni_allL (by decide), h, low_le h⟩⟩
theorem uni_high {xs : List Int} (h : allL xs = true) : eachE xs (List.replicate xs.length 4) = 0 ∧ isBelow xs (List.replicate xs.length 4) = true :=
  ⟨eachE_zero.2 ⟨h, uni_allL (by decide), List.length_replicate.symm⟩, isBelow_iff.2 ⟨h, uni_allL (by decide), le_high h⟩⟩
theorem eachE_bad1 {xs ys : List Int} (h : allL xs = false) : eachE xs ys = 190 := by
  unfold eachE chk2
  simp [h]
theorem eachE_bad2 {xs ys : List Int} (h : allL ys = false) : eachE xs ys = 190 := by
  unfold eachE chk2
  simp [h]
theorem isBelow_bad {xs ys : List Int} (h : eachE xs ys = 190) : isBelow xs ys = false := by
  unfold isBelow
  rw [h]
  rfl
set_option maxRecDepth 100000 in
set_option maxHeartbeats 8000000 in
theorem levelUniform_any (A1 : Option Addr) (n1 c1 : Nat) (xs : List Int) (i l : Int) (w : World) (hn1 : n1 = xs.length) (hc1 : n1 ≤ c1) (h1 : Rd intE w.heap.size w A1 xs) (hL : LaidAt w) :
    Calls Tryd.prog 6 #[.slice A1 n1 c1, .int .i64 i, .int .i64 l] w fun e w' => e = .returned (.bool true) ∧ Ext w w' := by
  replace hn1 := hide hn1
  replace h1 := hide h1
  replace hc1 := hide hc1
  replace hL := hide hL
  go_enter Tryd.func6, Tryd.ntmps6
  go_wp2_with fail
  refine (wakes_any _ hL.out).mono ?_
  rintro e w1 ⟨rfl, hE⟩
  clear hL
  go_wp2_with fail
  refine (few_any A1 n1 c1 xs _ hn1.out hc1.out (h1.out.ext hE)).mono ?_
  rintro e w2 ⟨va, rfl, hO, hE2⟩
  obtain ⟨Aa, ca, rfl, ra, -, -⟩ := hO.rd
  have b40 : (xs.take 40).length ≤ 40 := by rw [List.length_take]; omega
  generalize xs.take 40 = la at *
  replace hE := hE.trans (hE2.mono hE.size)
  clear hO hE2 h1 hn1 hc1
  obtain ⟨na, ea⟩ : ∃ n, n = la.length := ⟨_, rfl⟩
  rw [← ea] at b40 ⊢
  have ba : na ≤ 1000000 := by omega
  have eLo : Hid (uniE na 1 = 0 ∧ uniL na 1 = List.replicate la.length 1) := hide ⟨uniE_small b40 (by decide), by rw [← ea]; exact uniL_small b40 (by decide)⟩
  have eHi : Hid (uniE na 4 = 0 ∧ uniL na 4 = List.replicate la.length 4) := hide ⟨uniE_small b40 (by decide), by rw [← ea]; exact uniL_small b40 (by decide)⟩
  clear b40
  replace ea := hide ea
  replace ra := hide ra
  go_wp2_with fail
  refine (uniform_any na 1 _).mono ?_
  rintro e w3 ⟨vl, rfl, hO, hE2⟩
  obtain ⟨Al, cl, rfl, rl, -, -⟩ := hO.rd
  rw [eLo.out.1]
  rw [eLo.out.2] at rl ⊢
  have bl : (List.replicate la.length (1 : Int)).length ≤ 1000000 := by rw [List.length_replicate, ← ea.out]; exact ba
  generalize hll : List.replicate la.length (1 : Int) = ll at *
  replace hll := hide hll
  replace hE := hE.trans (hE2.mono hE.size)
  replace ra := hide (ra.out.ext hE2)
  clear hO hE2 eLo
  obtain ⟨nl, el⟩ : ∃ n, n = ll.length := ⟨_, rfl⟩
  rw [← el] at bl ⊢
  replace el := hide el
  replace rl := hide rl
  go_wp2_with fail
  refine (uniform_any na 4 _).mono ?_
  rintro e w4 ⟨vh, rfl, hO, hE2⟩
  obtain ⟨Ah, ch, rfl, rh, -, -⟩ := hO.rd
  rw [eHi.out.1]
  rw [eHi.out.2] at rh ⊢
  have bh : (List.replicate la.length (4 : Int)).length ≤ 1000000 := by rw [List.length_replicate, ← ea.out]; exact ba
  generalize hlh : List.replicate la.length (4 : Int) = lh at *
  replace hlh := hide hlh
  replace hE := hE.trans (hE2.mono hE.size)
  replace ra := hide (ra.out.ext hE2)
  replace rl := hide (rl.out.ext hE2)
  clear hO hE2 eHi
  obtain ⟨nh, eh⟩ : ∃ n, n = lh.length := ⟨_, rfl⟩
  rw [← eh] at bh ⊢
  replace eh := hide eh
  replace rh := hide rh
  go_wp2_with fail
  refine (below_any _ _ _ _ _ _ ll la _ rl.out ra.out el.out ea.out bl ba).mono ?_
  rintro e w5 ⟨rfl, hE2⟩
  replace hE := hE.trans (hE2.mono hE.size)
  replace ra := hide (ra.out.ext hE2)
  replace rh := hide (rh.out.ext hE2)
  clear hE2 rl
  obtain ⟨p, hp⟩ : ∃ p, p = isBelow ll la := ⟨_, rfl⟩
  obtain ⟨g, hg⟩ : ∃ g, g = eachE ll la := ⟨_, rfl⟩
  rw [← hp, ← hg]
  replace hp := hide hp
  replace hg := hide hg
  go_wp2_with fail
  refine (below_any _ _ _ _ _ _ la lh _ ra.out rh.out ea.out eh.out ba bh).mono ?_
  rintro e w6 ⟨rfl, hE2⟩
  have hB0 := hide (hE.trans (hE2.mono hE.size))
  replace ra := hide (ra.out.ext hE2)
  clear hE2 rh hE
  obtain ⟨q, hq⟩ : ∃ q, q = isBelow la lh := ⟨_, rfl⟩
  obtain ⟨h, hh⟩ : ∃ h, h = eachE la lh := ⟨_, rfl⟩
  rw [← hq, ← hh]
  have hB : Ext w6 w6 := Below.refl _ _
  cases hal : allL la with
  | true =>
    have hg0 : g = 0 := by rw [hg.out, ← hll.out]; exact (uni_low hal).1
    have hp1 : p = true := by rw [hp.out, ← hll.out]; exact (uni_low hal).2
    have hh0 : h = 0 := by rw [hh, ← hlh.out]; exact (uni_high hal).1
    have hq1 : q = true := by rw [hq, ← hlh.out]; exact (uni_high hal).2
    clear hg hh hp hq
    subst hg0 hp1 hh0 hq1
    clear hll hlh el eh
    replace hal := hide hal
    go_wp2_with fail
    refine (with_any _ _ _ la i l _ ea.out ba (ra.out.ext hB)).mono ?_
    rintro e w7 ⟨vw, rfl, hO, hE⟩
    obtain ⟨Aw, cw, rfl, rw_, -, -⟩ := hO.rd
    have hB7 := hB.trans (hE.mono hB.size)
    clear hO hE hB
    by_cases h0 : withE la i l = 0
    · have hw := hide (show withL la i l = la.set i.toNat l by unfold withL; rw [if_pos h0])
      have hi : 0 ≤ i ∧ i < la.length := by
        unfold withE at h0
        by_cases h1 : chk2 la [l] = 0
        · rw [if_pos h1] at h0
          by_cases h2 : 0 ≤ i ∧ i < la.length
          · exact h2
          · rw [if_neg h2] at h0
            exact absurd h0 (by decide)
        · rw [if_neg h1] at h0
          exact absurd h0 (by decide)
      obtain ⟨j, rfl⟩ : ∃ j : Nat, i = j := ⟨i.toNat, by omega⟩
      have hw2 : Hid (withL la j l = la.set j l) := hide hw.out
      clear hw
      rw [hw2.out] at rw_ ⊢
      rw [h0, List.length_set, ← ea.out]
      replace h0 := hide h0
      replace rw_ := hide rw_
      clear hi
      replace ra := hide (ra.out.ext hB7)
      replace hB7 := hide hB7
      go_wp2
      go_loopw [83] (fun o wr => ∃ k : Nat, k ≤ na ∧ o = .int .i64 k ∧ Ext w7 wr) (fun o _ => na - (intOf o).toNat)
      case atStart => exact ⟨0, Nat.zero_le _, rfl, Below.refl _ _⟩
      case round =>
        obtain ⟨k, hk, rfl, hB⟩ := hrel
        obtain ⟨hcc, hff⟩ := bcell hB
        have hsz := hB.size
        by_cases hlt : k < na
        · obtain ⟨b1, o1, rfl, a1⟩ := ra.out.at_ (i := k) (by rw [← ea.out]; exact hlt)
          obtain ⟨b2, o2, rfl, a2⟩ := rw_.out.at_ (i := k) (by rw [List.length_set, ← ea.out]; exact hlt)
          have hb1 := a1.1
          have hb2 := a2.1
          obtain ⟨p1, hp1⟩ := get_some (xs := la) (i := k) (by rw [← ea.out]; exact hlt)
          have hx1 := a1.int hp1
          by_cases hkj : k = j
          · subst hkj
            have hx2 := a2.int (show (la.set k l)[k]? = some l by rw [List.getElem?_set_self (by rw [← ea.out]; exact hlt)])
            replace a1 := hide a1
            replace a2 := hide a2
            replace hp1 := hide hp1
            go_wp2
            refine wp_region_reads [(0, true), (1, true), (2, true), (3, true), (4, true), (5, true), (6, true), (7, true), (8, true), (9, true), (10, true), (11, true), (12, true), (13, true), (14, true), (15, true), (16, true), (17, true), (18, true), (19, true), (20, true), (21, true), (22, true), (23, true), (24, true), (25, true), (26, true)] (by kernel_rfl) (by kernel_rfl) (by kernel_rfl) (by kernel_rfl) (fun _ _ d _ _ h => by cases d <;> exact h) ?_
            iterate 4
              apply mix_q rfl rfl
              · intro W hW
                subst hW
                go_simp
                try exact rfl
              simp only [Act.put, List.setIfInBounds_toArray, List.set_cons_zero, List.set_cons_succ]
            iterate 6
              apply mix_on rfl (wanted_is rfl rfl rfl rfl rfl)
              · intro W hW
                subst hW
                go_simp
                try exact rfl
              simp only [Act.put, List.setIfInBounds_toArray, List.set_cons_zero, List.set_cons_succ]
            iterate 2
              apply mix_q rfl rfl
              · intro W hW
                subst hW
                go_simp
                try exact rfl
              simp only [Act.put, List.setIfInBounds_toArray, List.set_cons_zero, List.set_cons_succ]
            iterate 4
              apply mix_on rfl (wanted_is rfl rfl rfl rfl rfl)
              · intro W hW
                subst hW
                go_simp
                try exact rfl
              simp only [Act.put, List.setIfInBounds_toArray, List.set_cons_zero, List.set_cons_succ]
            iterate 9
              refine mix_off rfl (wanted_is rfl rfl rfl rfl rfl) ?_
              simp only [Act.put, List.setIfInBounds_toArray, List.set_cons_zero, List.set_cons_succ]
            iterate 1
              apply mix_on rfl (wanted_is rfl rfl rfl rfl rfl)
              · intro W hW
                subst hW
                go_simp
                try exact rfl
              simp only [Act.put, List.setIfInBounds_toArray, List.set_cons_zero, List.set_cons_succ]
            iterate 1
              apply mix_q rfl rfl
              · intro W hW
                subst hW
                go_simp
                try exact rfl
              simp only [Act.put, List.setIfInBounds_toArray, List.set_cons_zero, List.set_cons_succ]
            refine mix_nil ?_
            go_wp2
            refine ⟨?_, ?_⟩
            · first
                | exact ⟨k + 1, by omega, by go_num, hB.drew⟩
                | ((repeat apply Exists.intro); exact ⟨⟨k + 1, by omega, by go_num, hB.drew⟩, rfl⟩)
            · first | (simp [intOf, lenV]; omega) | (simp [intOf]; omega) | (simp [intOf]; done)
          · have hx2 := a2.int (show (la.set j l)[k]? = some p1 by rw [List.getElem?_set_ne (Ne.symm hkj)]; exact hp1)
            have hne : ((k : Int) == (j : Int)) = false := by rw [beq_eq_false_iff_ne]; omega
            have hne2 : ((k : Int) != (j : Int)) = true := by rw [bne, hne]; rfl
            replace a1 := hide a1
            replace a2 := hide a2
            replace hp1 := hide hp1
            go_wp2
            refine wp_region_reads [(0, true), (1, true), (2, true), (3, true), (4, true), (5, true), (6, true), (7, true), (8, true), (9, true), (10, true), (11, true), (12, true), (13, true), (14, true), (15, true), (16, true), (17, true), (18, true), (19, true), (20, true), (21, true), (22, true), (23, true), (24, true), (25, true), (26, true)] (by kernel_rfl) (by kernel_rfl) (by kernel_rfl) (by kernel_rfl) (fun _ _ d _ _ h => by cases d <;> exact h) ?_
            iterate 4
              apply mix_q rfl rfl
              · intro W hW
                subst hW
                go_simp
                try exact rfl
              simp only [Act.put, List.setIfInBounds_toArray, List.set_cons_zero, List.set_cons_succ]
            iterate 6
              refine mix_off rfl (wanted_is rfl rfl rfl rfl rfl) ?_
              simp only [Act.put, List.setIfInBounds_toArray, List.set_cons_zero, List.set_cons_succ]
            iterate 2
              apply mix_q rfl rfl
              · intro W hW
                subst hW
                go_simp
                try exact rfl
              simp only [Act.put, List.setIfInBounds_toArray, List.set_cons_zero, List.set_cons_succ]
            iterate 4
              apply mix_on rfl (wanted_is rfl rfl rfl rfl rfl)
              · intro W hW
                subst hW
                go_simp
                try exact rfl
              simp only [Act.put, List.setIfInBounds_toArray, List.set_cons_zero, List.set_cons_succ]
            iterate 9
              apply mix_on rfl (wanted_is rfl rfl rfl rfl rfl)
              · intro W hW
                subst hW
                go_simp
                try exact rfl
              simp only [Act.put, List.setIfInBounds_toArray, List.set_cons_zero, List.set_cons_succ]
            iterate 1
              apply mix_on rfl (wanted_is rfl rfl rfl rfl rfl)
              · intro W hW
                subst hW
                go_simp
                try exact rfl
              simp only [Act.put, List.setIfInBounds_toArray, List.set_cons_zero, List.set_cons_succ]
            iterate 1
              apply mix_q rfl rfl
              · intro W hW
                subst hW
                go_simp
                try exact rfl
              simp only [Act.put, List.setIfInBounds_toArray, List.set_cons_zero, List.set_cons_succ]
            refine mix_nil ?_
            go_wp2
            refine ⟨?_, ?_⟩
            · first
                | exact ⟨k + 1, by omega, by go_num, hB.drew⟩
                | ((repeat apply Exists.intro); exact ⟨⟨k + 1, by omega, by go_num, hB.drew⟩, rfl⟩)
            · first | (simp [intOf, lenV]; omega) | (simp [intOf]; omega) | (simp [intOf]; done)
        · obtain hkn : k = na := by omega
          subst hkn
          go_wp2
          go_ret
          exact ⟨rfl, hB0.out.trans ((hB7.out.trans (hB.mono hB7.out.size)).mono hB0.out.size)⟩
    · have hw : (withL la i l).length = 0 := by unfold withL; rw [if_neg h0]; rfl
      rw [hw]
      have h0' : (withE la i l == 0) = false := beq_eq_false_iff_ne.2 h0
      generalize withE la i l = ew at *
      clear rw_ hw
      go_wp2
      go_ret
      exact ⟨rfl, hB0.out.trans (hB7.mono hB0.out.size)⟩
  | false =>
    have hg0 : g = 190 := by rw [hg.out]; exact eachE_bad2 hal
    have hh0 : h = 190 := by rw [hh]; exact eachE_bad1 hal
    clear hg hh hp hq
    subst hg0 hh0
    clear hll hlh el eh
    replace hal := hide hal
    go_wp2_with fail
    refine (with_any _ _ _ la i l _ ea.out ba (ra.out.ext hB)).mono ?_
    rintro e w7 ⟨vw, rfl, hO, hE⟩
    obtain ⟨Aw, cw, rfl, rw_, -, -⟩ := hO.rd
    have hB7 := hB.trans (hE.mono hB.size)
    clear hO hE hB
    by_cases h0 : withE la i l = 0
    · have hw := hide (show withL la i l = la.set i.toNat l by unfold withL; rw [if_pos h0])
      have hi : 0 ≤ i ∧ i < la.length := by
        unfold withE at h0
        by_cases h1 : chk2 la [l] = 0
        · rw [if_pos h1] at h0
          by_cases h2 : 0 ≤ i ∧ i < la.length
          · exact h2
          · rw [if_neg h2] at h0
            exact absurd h0 (by decide)
        · rw [if_neg h1] at h0
          exact absurd h0 (by decide)
      obtain ⟨j, rfl⟩ : ∃ j : Nat, i = j := ⟨i.toNat, by omega⟩
      have hw2 : Hid (withL la j l = la.set j l) := hide hw.out
      clear hw
      rw [hw2.out] at rw_ ⊢
      rw [h0, List.length_set, ← ea.out]
      replace h0 := hide h0
      replace rw_ := hide rw_
      clear hi
      replace ra := hide (ra.out.ext hB7)
      replace hB7 := hide hB7
      go_wp2
      go_loopw [83] (fun o wr => ∃ k : Nat, k ≤ na ∧ o = .int .i64 k ∧ Ext w7 wr) (fun o _ => na - (intOf o).toNat)
      case atStart => exact ⟨0, Nat.zero_le _, rfl, Below.refl _ _⟩
      case round =>
        obtain ⟨k, hk, rfl, hB⟩ := hrel
        obtain ⟨hcc, hff⟩ := bcell hB
        have hsz := hB.size
        by_cases hlt : k < na
        · obtain ⟨b1, o1, rfl, a1⟩ := ra.out.at_ (i := k) (by rw [← ea.out]; exact hlt)
          obtain ⟨b2, o2, rfl, a2⟩ := rw_.out.at_ (i := k) (by rw [List.length_set, ← ea.out]; exact hlt)
          have hb1 := a1.1
          have hb2 := a2.1
          obtain ⟨p1, hp1⟩ := get_some (xs := la) (i := k) (by rw [← ea.out]; exact hlt)
          have hx1 := a1.int hp1
          by_cases hkj : k = j
          · subst hkj
            have hx2 := a2.int (show (la.set k l)[k]? = some l by rw [List.getElem?_set_self (by rw [← ea.out]; exact hlt)])
            replace a1 := hide a1
            replace a2 := hide a2
            replace hp1 := hide hp1
            go_wp2
            refine wp_region_reads [(0, true), (1, true), (2, true), (3, true), (4, true), (5, true), (6, true), (7, true), (8, true), (9, true), (10, true), (11, true), (12, true), (13, true), (14, true), (15, true), (16, true), (17, true), (18, true), (19, true), (20, true), (21, true), (22, true), (23, true), (24, true), (25, true), (26, true)] (by kernel_rfl) (by kernel_rfl) (by kernel_rfl) (by kernel_rfl) (fun _ _ d _ _ h => by cases d <;> exact h) ?_
            iterate 4
              apply mix_q rfl rfl
              · intro W hW
                subst hW
                go_simp
                try exact rfl
              simp only [Act.put, List.setIfInBounds_toArray, List.set_cons_zero, List.set_cons_succ]
            iterate 6
              apply mix_on rfl (wanted_is rfl rfl rfl rfl rfl)
              · intro W hW
                subst hW
                go_simp
                try exact rfl
              simp only [Act.put, List.setIfInBounds_toArray, List.set_cons_zero, List.set_cons_succ]
            iterate 2
              apply mix_q rfl rfl
              · intro W hW
                subst hW
                go_simp
                try exact rfl
              simp only [Act.put, List.setIfInBounds_toArray, List.set_cons_zero, List.set_cons_succ]
            iterate 4
              apply mix_on rfl (wanted_is rfl rfl rfl rfl rfl)
              · intro W hW
                subst hW
                go_simp
                try exact rfl
              simp only [Act.put, List.setIfInBounds_toArray, List.set_cons_zero, List.set_cons_succ]
            iterate 9
              refine mix_off rfl (wanted_is rfl rfl rfl rfl rfl) ?_
              simp only [Act.put, List.setIfInBounds_toArray, List.set_cons_zero, List.set_cons_succ]
            iterate 1
              apply mix_on rfl (wanted_is rfl rfl rfl rfl rfl)
              · intro W hW
                subst hW
                go_simp
                try exact rfl
              simp only [Act.put, List.setIfInBounds_toArray, List.set_cons_zero, List.set_cons_succ]
            iterate 1
              apply mix_q rfl rfl
              · intro W hW
                subst hW
                go_simp
                try exact rfl
              simp only [Act.put, List.setIfInBounds_toArray, List.set_cons_zero, List.set_cons_succ]
            refine mix_nil ?_
            go_wp2
            refine ⟨?_, ?_⟩
            · first
                | exact ⟨k + 1, by omega, by go_num, hB.drew⟩
                | ((repeat apply Exists.intro); exact ⟨⟨k + 1, by omega, by go_num, hB.drew⟩, rfl⟩)
            · first | (simp [intOf, lenV]; omega) | (simp [intOf]; omega) | (simp [intOf]; done)
          · have hx2 := a2.int (show (la.set j l)[k]? = some p1 by rw [List.getElem?_set_ne (Ne.symm hkj)]; exact hp1)
            have hne : ((k : Int) == (j : Int)) = false := by rw [beq_eq_false_iff_ne]; omega
            have hne2 : ((k : Int) != (j : Int)) = true := by rw [bne, hne]; rfl
            replace a1 := hide a1
            replace a2 := hide a2
            replace hp1 := hide hp1
            go_wp2
            refine wp_region_reads [(0, true), (1, true), (2, true), (3, true), (4, true), (5, true), (6, true), (7, true), (8, true), (9, true), (10, true), (11, true), (12, true), (13, true), (14, true), (15, true), (16, true), (17, true), (18, true), (19, true), (20, true), (21, true), (22, true), (23, true), (24, true), (25, true), (26, true)] (by kernel_rfl) (by kernel_rfl) (by kernel_rfl) (by kernel_rfl) (fun _ _ d _ _ h => by cases d <;> exact h) ?_
            iterate 4
              apply mix_q rfl rfl
              · intro W hW
                subst hW
                go_simp
                try exact rfl
              simp only [Act.put, List.setIfInBounds_toArray, List.set_cons_zero, List.set_cons_succ]
            iterate 6
              refine mix_off rfl (wanted_is rfl rfl rfl rfl rfl) ?_
              simp only [Act.put, List.setIfInBounds_toArray, List.set_cons_zero, List.set_cons_succ]
            iterate 2
              apply mix_q rfl rfl
              · intro W hW
                subst hW
                go_simp
                try exact rfl
              simp only [Act.put, List.setIfInBounds_toArray, List.set_cons_zero, List.set_cons_succ]
            iterate 4
              apply mix_on rfl (wanted_is rfl rfl rfl rfl rfl)
              · intro W hW
                subst hW
                go_simp
                try exact rfl
              simp only [Act.put, List.setIfInBounds_toArray, List.set_cons_zero, List.set_cons_succ]
            iterate 9
              apply mix_on rfl (wanted_is rfl rfl rfl rfl rfl)
              · intro W hW
                subst hW
                go_simp
                try exact rfl
              simp only [Act.put, List.setIfInBounds_toArray, List.set_cons_zero, List.set_cons_succ]
            iterate 1
              apply mix_on rfl (wanted_is rfl rfl rfl rfl rfl)
              · intro W hW
                subst hW
                go_simp
                try exact rfl
              simp only [Act.put, List.setIfInBounds_toArray, List.set_cons_zero, List.set_cons_succ]
            iterate 1
              apply mix_q rfl rfl
              · intro W hW
                subst hW
                go_simp
                try exact rfl
              simp only [Act.put, List.setIfInBounds_toArray, List.set_cons_zero, List.set_cons_succ]
            refine mix_nil ?_
            go_wp2
            refine ⟨?_, ?_⟩
            · first
                | exact ⟨k + 1, by omega, by go_num, hB.drew⟩
                | ((repeat apply Exists.intro); exact ⟨⟨k + 1, by omega, by go_num, hB.drew⟩, rfl⟩)
            · first | (simp [intOf, lenV]; omega) | (simp [intOf]; omega) | (simp [intOf]; done)
        · obtain hkn : k = na := by omega
          subst hkn
          go_wp2
          go_ret
          exact ⟨rfl, hB0.out.trans ((hB7.out.trans (hB.mono hB7.out.size)).mono hB0.out.size)⟩
    · have hw : (withL la i l).length = 0 := by unfold withL; rw [if_neg h0]; rfl
      rw [hw]
      have h0' : (withE la i l == 0) = false := beq_eq_false_iff_ne.2 h0
      generalize withE la i l = ew at *
      clear rw_ hw
      go_wp2
      go_ret
      exact ⟨rfl, hB0.out.trans (hB7.mono hB0.out.size)⟩
end Go.Proofs.YtbmcbbcgambflaaDoor
