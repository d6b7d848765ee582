/- LevelTexts: levels and guarantees, and their texts. -/
import Derived.Test.YtbmcbbcgambflaaDoorLevR
namespace Go.Proofs.YtbmcbbcgambflaaDoor
open Go.RowKit

set_option maxRecDepth 100000 in
set_option maxHeartbeats 4000000 in
theorem levelTexts_any (A : Option Addr) (n c : Nat) (xs : List Int) (B : Option Addr) (m d : Nat) (ss : List ByteArray) (w : World) (hn : n = xs.length) (h : Rd intE w.heap.size w A xs) (hm : m = ss.length) (h' : Rd strE w.heap.size w B ss) (hL : LaidAt w) :
    Calls Tryd.prog 3 #[.slice A n c, .slice B m d] w fun e w' => e = .returned (.bool true) ∧ Ext w w' := by
  replace hn := hide hn
  replace h := hide h
  replace hm := hide hm
  replace h' := hide h'
  replace hL := hide hL
  go_enter Tryd.func3, Tryd.ntmps3
  go_wp2_with fail
  refine (wakes_any _ hL.out).mono ?_
  rintro e w1 ⟨rfl, hE1⟩
  go_wp2
  go_loopw [24] (fun i wr => ∃ k : Nat, k ≤ n ∧ k ≤ 20 ∧ i = .int .i64 k ∧ Ext w wr) (fun i _ => n - (intOf i).toNat)
  case atStart => exact ⟨0, Nat.zero_le _, by omega, rfl, hE1⟩
  case round =>
    obtain ⟨k, hk, hk20, rfl, hB⟩ := hrel
    obtain ⟨hcc, hff⟩ := bcell hB
    have hsz := hB.size
    by_cases hend : k < n ∧ k ≠ 20
    · obtain ⟨hlt, h20⟩ := hend
      obtain ⟨b, off, rfl, hra⟩ := h.out.at_ (i := k) (by rw [← hn.out]; exact hlt)
      have hb1 := hra.1
      obtain ⟨p1, hp⟩ := get_some (xs := xs) (i := k) (by rw [← hn.out]; exact hlt)
      have hp1 := hra.int hp
      have h20' : ((k : Int) == 20) = false := by rw [beq_eq_false_iff_ne]; omega
      clear hp
      replace hra := hide hra
      cases hl : lvl p1 with
      | true =>
        have hc := chk_in hl
        replace hl := hide hl
        replace hc := hide hc
        go_wp2_with fail
        refine (text_any p1 _ (hL.out.ext hB)).mono ?_
        rintro e w2 ⟨rfl, rfl⟩
        rw [hc.out]
        go_wp2_with fail
        refine (right_any p1 _).mono ?_
        rintro e w2 ⟨rfl, rfl⟩
        rw [hl.out]
        go_wp2_with fail
        refine (check_any p1 _).mono ?_
        rintro e w2 ⟨rfl, rfl⟩
        rw [hc.out]
        go_wp2_with fail
        refine (refText_any p1 hl.out _).mono ?_
        rintro e w2 ⟨rfl, rfl⟩
        generalize txt p1 = tt at *
        clear hra hp1 hcc hff hb1
        by_cases hin : p1 < 0 ∨ 15 < p1
        · by_cases hp0 : p1 < 0
          · go_wp2_with fail
            refine (words_out p1 hin _).mono ?_
            rintro e w3 ⟨rfl, rfl⟩
            replace hin := hide hin
            go_wp2
            refine ⟨?_, ?_⟩
            · first
                | exact ⟨k + 1, by omega, by omega, by go_num, hB⟩
                | ((repeat apply Exists.intro); exact ⟨⟨k + 1, by omega, by omega, by go_num, hB⟩, rfl⟩)
            · first | (simp [intOf, lenV]; omega) | (simp [intOf]; omega) | (simp [intOf]; done)
          · have hp0' : 0 ≤ p1 := by omega
            have hp15 : ¬ p1 ≤ 15 := by omega
            go_wp2_with fail
            refine (words_out p1 hin _).mono ?_
            rintro e w3 ⟨rfl, rfl⟩
            replace hin := hide hin
            go_wp2
            refine ⟨?_, ?_⟩
            · first
                | exact ⟨k + 1, by omega, by omega, by go_num, hB⟩
                | ((repeat apply Exists.intro); exact ⟨⟨k + 1, by omega, by omega, by go_num, hB⟩, rfl⟩)
            · first | (simp [intOf, lenV]; omega) | (simp [intOf]; omega) | (simp [intOf]; done)
        · obtain ⟨g, hg⟩ : ∃ g : Nat, p1 = g := ⟨p1.toNat, by omega⟩
          subst hg
          have hg16 : g < 16 := by omega
          have hg15 : (g : Int) ≤ 15 := by omega
          clear hin
          go_wp2_with fail
          refine (words_in g hg16 _ (hL.out.ext hB)).mono ?_
          rintro e w3 ⟨rfl, hE3⟩
          replace hB := hB.trans (hE3.mono hB.size)
          clear hE3
          go_wp2_with fail
          refine (refWords_any g hg16 _).mono ?_
          rintro e w4 ⟨rfl, rfl⟩
          generalize wordsB g = t at *
          go_wp2
          refine ⟨?_, ?_⟩
          · first
              | exact ⟨k + 1, by omega, by omega, by go_num, hB⟩
              | ((repeat apply Exists.intro); exact ⟨⟨k + 1, by omega, by omega, by go_num, hB⟩, rfl⟩)
          · first | (simp [intOf, lenV]; omega) | (simp [intOf]; omega) | (simp [intOf]; done)
      | false =>
        have hc := chk_out hl
        have ht : txt p1 = ⟨#[]⟩ := by unfold txt; rw [hl]; rfl
        replace hl := hide hl
        replace hc := hide hc
        replace ht := hide ht
        go_wp2_with fail
        refine (text_any p1 _ (hL.out.ext hB)).mono ?_
        rintro e w2 ⟨rfl, rfl⟩
        rw [hc.out, ht.out]
        go_wp2_with fail
        refine (right_any p1 _).mono ?_
        rintro e w2 ⟨rfl, rfl⟩
        rw [hl.out]
        go_wp2_with fail
        refine (check_any p1 _).mono ?_
        rintro e w2 ⟨rfl, rfl⟩
        rw [hc.out]
        clear hra hp1 hcc hff hb1
        by_cases hin : p1 < 0 ∨ 15 < p1
        · by_cases hp0 : p1 < 0
          · go_wp2_with fail
            refine (words_out p1 hin _).mono ?_
            rintro e w3 ⟨rfl, rfl⟩
            replace hin := hide hin
            go_wp2
            refine ⟨?_, ?_⟩
            · first
                | exact ⟨k + 1, by omega, by omega, by go_num, hB⟩
                | ((repeat apply Exists.intro); exact ⟨⟨k + 1, by omega, by omega, by go_num, hB⟩, rfl⟩)
            · first | (simp [intOf, lenV]; omega) | (simp [intOf]; omega) | (simp [intOf]; done)
          · have hp0' : 0 ≤ p1 := by omega
            have hp15 : ¬ p1 ≤ 15 := by omega
            go_wp2_with fail
            refine (words_out p1 hin _).mono ?_
            rintro e w3 ⟨rfl, rfl⟩
            replace hin := hide hin
            go_wp2
            refine ⟨?_, ?_⟩
            · first
                | exact ⟨k + 1, by omega, by omega, by go_num, hB⟩
                | ((repeat apply Exists.intro); exact ⟨⟨k + 1, by omega, by omega, by go_num, hB⟩, rfl⟩)
            · first | (simp [intOf, lenV]; omega) | (simp [intOf]; omega) | (simp [intOf]; done)
        · obtain ⟨g, hg⟩ : ∃ g : Nat, p1 = g := ⟨p1.toNat, by omega⟩
          subst hg
          have hg16 : g < 16 := by omega
          have hg15 : (g : Int) ≤ 15 := by omega
          clear hin
          go_wp2_with fail
          refine (words_in g hg16 _ (hL.out.ext hB)).mono ?_
          rintro e w3 ⟨rfl, hE3⟩
          replace hB := hB.trans (hE3.mono hB.size)
          clear hE3
          go_wp2_with fail
          refine (refWords_any g hg16 _).mono ?_
          rintro e w4 ⟨rfl, rfl⟩
          generalize wordsB g = t at *
          go_wp2
          refine ⟨?_, ?_⟩
          · first
              | exact ⟨k + 1, by omega, by omega, by go_num, hB⟩
              | ((repeat apply Exists.intro); exact ⟨⟨k + 1, by omega, by omega, by go_num, hB⟩, rfl⟩)
          · first | (simp [intOf, lenV]; omega) | (simp [intOf]; omega) | (simp [intOf]; done)
    · by_cases hkn : k < n
      · obtain rfl : k = 20 := by omega
        obtain ⟨b, off, rfl, hra⟩ := h.out.at_ (i := 20) (by rw [← hn.out]; exact hkn)
        have hb1 := hra.1
        obtain ⟨p1, hp⟩ := get_some (xs := xs) (i := 20) (by rw [← hn.out]; exact hkn)
        have hp1 := hra.int hp
        have hkni : (20 : Int) < (n : Int) := by omega
        clear hp hend
        replace hra := hide hra
        go_wp2
        go_loopw [108] (fun i wr => ∃ j : Nat, j ≤ m ∧ j ≤ 20 ∧ i = .int .i64 j ∧ Ext w wr) (fun i _ => m - (intOf i).toNat)
        case atStart => exact ⟨0, Nat.zero_le _, by omega, rfl, hB⟩
        case round =>
          clear hB hsz hcc hff
          obtain ⟨j, hj, hj20, rfl, hB⟩ := hrel
          obtain ⟨hcc, hff⟩ := bcell hB
          have hsz := hB.size
          by_cases hlt : j < m
          · obtain ⟨b, off, rfl, hra⟩ := h'.out.at_ (i := j) (by rw [← hm.out]; exact hlt)
            have hb1 := hra.1
            obtain ⟨p1, hp⟩ := get_some (xs := ss) (i := j) (by rw [← hm.out]; exact hlt)
            have hp1 := hra.str hp
            replace hp := hide hp
            replace hra := hide hra
            by_cases h20 : j = 20
            · subst h20
              have hlti : (20 : Int) < (m : Int) := by omega
              go_wp2
              go_ret
              exact ⟨rfl, hB⟩
            · have h20' : ((j : Int) == 20) = false := by rw [beq_eq_false_iff_ne]; omega
              have hj21 : j + 1 ≤ 20 := by omega
              cases hl : lvl (idxT p1) with
              | true =>
                obtain ⟨k1, k2⟩ := lvl_of hl
                have hv : lev p1 = idxT p1 := by unfold lev; rw [if_pos hl]
                have hc := chk_in hl
                obtain ⟨x, hx⟩ : ∃ x, x = idxT p1 := ⟨_, rfl⟩
                rw [← hx] at hv k1 k2
                have k3 : (0 : Int) < x := by omega
                have k4 : (x == 0) = false := by rw [beq_eq_false_iff_ne]; omega
                replace hl := hide hl
                replace hv := hide hv
                replace hc := hide hc
                replace hx := hide hx
                go_wp2_with fail
                refine (read_any p1 _ (hL.out.ext hB)).mono ?_
                rintro e w3 ⟨rfl, rfl⟩
                rw [hv.out, hc.out]
                clear hra hp1 hcc hff hb1
                cases hg : gua p1 with
                | none =>
                  have g1 : guaN p1 = 0 := by unfold guaN; rw [hg]
                  have g2 : guaE p1 = 190 := by unfold guaE; rw [hg]
                  obtain ⟨z, hz⟩ : ∃ z : Int, z = -1 := ⟨_, rfl⟩
                  have g3 : guaR p1 = z := by unfold guaR; rw [hg, hz]
                  have z1 : z < 0 := by omega
                  have z2 : max z 0 = 0 := by omega
                  have z3 : ¬ (0 ≤ z) := by omega
                  clear hz
                  replace hg := hide hg
                  replace g1 := hide g1
                  replace g2 := hide g2
                  replace g3 := hide g3
                  go_wp2_with fail
                  refine (guar_any p1 _ (hL.out.ext hB)).mono ?_
                  rintro e w4 ⟨rfl, hE4⟩
                  rw [g1.out, g2.out]
                  replace hB := hB.trans (hE4.mono hB.size)
                  clear hE4
                  go_wp2_with fail
                  refine (refRead_any p1 _).mono ?_
                  rintro e w5 ⟨rfl, rfl⟩
                  rw [hv.out]
                  go_wp2_with fail
                  refine (refGuar_any p1 _).mono ?_
                  rintro e w5 ⟨rfl, rfl⟩
                  rw [g3.out]
                  clear hn h hm h'
                  go_wp2
                  refine ⟨?_, ?_⟩
                  · first
                      | exact ⟨j + 1, hlt, hj21, by go_num, hB⟩
                      | ((repeat apply Exists.intro); exact ⟨⟨j + 1, hlt, hj21, by go_num, hB⟩, rfl⟩)
                      | (refine ⟨_, _, _, _, _, _, _, _, _, _, ⟨j + 1, hlt, hj21, ?_⟩, rfl, rfl, rfl, rfl, rfl, rfl, rfl, rfl, rfl, rfl⟩; go_num)
                  · first | (simp [intOf, lenV]; omega) | (simp [intOf]; omega) | (simp [intOf]; done)
                | some g =>
                  have g1 : guaN p1 = g := by unfold guaN; rw [hg]
                  have g2 : guaE p1 = 0 := by unfold guaE; rw [hg]
                  have g3 : guaR p1 = g := by unfold guaR; rw [hg]
                  have z2 : max (g : Int) 0 = g := by omega
                  replace hg := hide hg
                  replace g1 := hide g1
                  replace g2 := hide g2
                  replace g3 := hide g3
                  go_wp2_with fail
                  refine (guar_any p1 _ (hL.out.ext hB)).mono ?_
                  rintro e w4 ⟨rfl, hE4⟩
                  rw [g1.out, g2.out]
                  replace hB := hB.trans (hE4.mono hB.size)
                  clear hE4
                  go_wp2_with fail
                  refine (refRead_any p1 _).mono ?_
                  rintro e w5 ⟨rfl, rfl⟩
                  rw [hv.out]
                  go_wp2_with fail
                  refine (refGuar_any p1 _).mono ?_
                  rintro e w5 ⟨rfl, rfl⟩
                  rw [g3.out]
                  clear hn h hm h'
                  go_wp2
                  refine ⟨?_, ?_⟩
                  · first
                      | exact ⟨j + 1, hlt, hj21, by go_num, hB⟩
                      | ((repeat apply Exists.intro); exact ⟨⟨j + 1, hlt, hj21, by go_num, hB⟩, rfl⟩)
                      | (refine ⟨_, _, _, _, _, _, _, _, _, _, ⟨j + 1, hlt, hj21, ?_⟩, rfl, rfl, rfl, rfl, rfl, rfl, rfl, rfl, rfl, rfl⟩; go_num)
                  · first | (simp [intOf, lenV]; omega) | (simp [intOf]; omega) | (simp [intOf]; done)
              | false =>
                have hv : lev p1 = 0 := by unfold lev; rw [hl]; rfl
                have hc := chk_out hl
                replace hl := hide hl
                replace hv := hide hv
                replace hc := hide hc
                go_wp2_with fail
                refine (read_any p1 _ (hL.out.ext hB)).mono ?_
                rintro e w3 ⟨rfl, rfl⟩
                rw [hv.out, hc.out]
                clear hra hp1 hcc hff hb1
                cases hg : gua p1 with
                | none =>
                  have g1 : guaN p1 = 0 := by unfold guaN; rw [hg]
                  have g2 : guaE p1 = 190 := by unfold guaE; rw [hg]
                  obtain ⟨z, hz⟩ : ∃ z : Int, z = -1 := ⟨_, rfl⟩
                  have g3 : guaR p1 = z := by unfold guaR; rw [hg, hz]
                  have z1 : z < 0 := by omega
                  have z2 : max z 0 = 0 := by omega
                  have z3 : ¬ (0 ≤ z) := by omega
                  clear hz
                  replace hg := hide hg
                  replace g1 := hide g1
                  replace g2 := hide g2
                  replace g3 := hide g3
                  go_wp2_with fail
                  refine (guar_any p1 _ (hL.out.ext hB)).mono ?_
                  rintro e w4 ⟨rfl, hE4⟩
                  rw [g1.out, g2.out]
                  replace hB := hB.trans (hE4.mono hB.size)
                  clear hE4
                  go_wp2_with fail
                  refine (refRead_any p1 _).mono ?_
                  rintro e w5 ⟨rfl, rfl⟩
                  rw [hv.out]
                  go_wp2_with fail
                  refine (refGuar_any p1 _).mono ?_
                  rintro e w5 ⟨rfl, rfl⟩
                  rw [g3.out]
                  clear hn h hm h'
                  go_wp2
                  refine ⟨?_, ?_⟩
                  · first
                      | exact ⟨j + 1, hlt, hj21, by go_num, hB⟩
                      | ((repeat apply Exists.intro); exact ⟨⟨j + 1, hlt, hj21, by go_num, hB⟩, rfl⟩)
                      | (refine ⟨_, _, _, _, _, _, _, _, _, _, ⟨j + 1, hlt, hj21, ?_⟩, rfl, rfl, rfl, rfl, rfl, rfl, rfl, rfl, rfl, rfl⟩; go_num)
                  · first | (simp [intOf, lenV]; omega) | (simp [intOf]; omega) | (simp [intOf]; done)
                | some g =>
                  have g1 : guaN p1 = g := by unfold guaN; rw [hg]
                  have g2 : guaE p1 = 0 := by unfold guaE; rw [hg]
                  have g3 : guaR p1 = g := by unfold guaR; rw [hg]
                  have z2 : max (g : Int) 0 = g := by omega
                  replace hg := hide hg
                  replace g1 := hide g1
                  replace g2 := hide g2
                  replace g3 := hide g3
                  go_wp2_with fail
                  refine (guar_any p1 _ (hL.out.ext hB)).mono ?_
                  rintro e w4 ⟨rfl, hE4⟩
                  rw [g1.out, g2.out]
                  replace hB := hB.trans (hE4.mono hB.size)
                  clear hE4
                  go_wp2_with fail
                  refine (refRead_any p1 _).mono ?_
                  rintro e w5 ⟨rfl, rfl⟩
                  rw [hv.out]
                  go_wp2_with fail
                  refine (refGuar_any p1 _).mono ?_
                  rintro e w5 ⟨rfl, rfl⟩
                  rw [g3.out]
                  clear hn h hm h'
                  go_wp2
                  refine ⟨?_, ?_⟩
                  · first
                      | exact ⟨j + 1, hlt, hj21, by go_num, hB⟩
                      | ((repeat apply Exists.intro); exact ⟨⟨j + 1, hlt, hj21, by go_num, hB⟩, rfl⟩)
                      | (refine ⟨_, _, _, _, _, _, _, _, _, _, ⟨j + 1, hlt, hj21, ?_⟩, rfl, rfl, rfl, rfl, rfl, rfl, rfl, rfl, rfl, rfl⟩; go_num)
                  · first | (simp [intOf, lenV]; omega) | (simp [intOf]; omega) | (simp [intOf]; done)
          · obtain rfl : j = m := by omega
            go_wp2
            go_ret
            exact ⟨rfl, hB⟩
      · obtain rfl : k = n := by omega
        clear hend
        go_wp2
        go_loopw [108] (fun i wr => ∃ j : Nat, j ≤ m ∧ j ≤ 20 ∧ i = .int .i64 j ∧ Ext w wr) (fun i _ => m - (intOf i).toNat)
        case atStart => exact ⟨0, Nat.zero_le _, by omega, rfl, hB⟩
        case round =>
          clear hB hsz hcc hff
          obtain ⟨j, hj, hj20, rfl, hB⟩ := hrel
          obtain ⟨hcc, hff⟩ := bcell hB
          have hsz := hB.size
          by_cases hlt : j < m
          · obtain ⟨b, off, rfl, hra⟩ := h'.out.at_ (i := j) (by rw [← hm.out]; exact hlt)
            have hb1 := hra.1
            obtain ⟨p1, hp⟩ := get_some (xs := ss) (i := j) (by rw [← hm.out]; exact hlt)
            have hp1 := hra.str hp
            replace hp := hide hp
            replace hra := hide hra
            by_cases h20 : j = 20
            · subst h20
              have hlti : (20 : Int) < (m : Int) := by omega
              go_wp2
              go_ret
              exact ⟨rfl, hB⟩
            · have h20' : ((j : Int) == 20) = false := by rw [beq_eq_false_iff_ne]; omega
              have hj21 : j + 1 ≤ 20 := by omega
              cases hl : lvl (idxT p1) with
              | true =>
                obtain ⟨k1, k2⟩ := lvl_of hl
                have hv : lev p1 = idxT p1 := by unfold lev; rw [if_pos hl]
                have hc := chk_in hl
                obtain ⟨x, hx⟩ : ∃ x, x = idxT p1 := ⟨_, rfl⟩
                rw [← hx] at hv k1 k2
                have k3 : (0 : Int) < x := by omega
                have k4 : (x == 0) = false := by rw [beq_eq_false_iff_ne]; omega
                replace hl := hide hl
                replace hv := hide hv
                replace hc := hide hc
                replace hx := hide hx
                go_wp2_with fail
                refine (read_any p1 _ (hL.out.ext hB)).mono ?_
                rintro e w3 ⟨rfl, rfl⟩
                rw [hv.out, hc.out]
                clear hra hp1 hcc hff hb1
                cases hg : gua p1 with
                | none =>
                  have g1 : guaN p1 = 0 := by unfold guaN; rw [hg]
                  have g2 : guaE p1 = 190 := by unfold guaE; rw [hg]
                  obtain ⟨z, hz⟩ : ∃ z : Int, z = -1 := ⟨_, rfl⟩
                  have g3 : guaR p1 = z := by unfold guaR; rw [hg, hz]
                  have z1 : z < 0 := by omega
                  have z2 : max z 0 = 0 := by omega
                  have z3 : ¬ (0 ≤ z) := by omega
                  clear hz
                  replace hg := hide hg
                  replace g1 := hide g1
                  replace g2 := hide g2
                  replace g3 := hide g3
                  go_wp2_with fail
                  refine (guar_any p1 _ (hL.out.ext hB)).mono ?_
                  rintro e w4 ⟨rfl, hE4⟩
                  rw [g1.out, g2.out]
                  replace hB := hB.trans (hE4.mono hB.size)
                  clear hE4
                  go_wp2_with fail
                  refine (refRead_any p1 _).mono ?_
                  rintro e w5 ⟨rfl, rfl⟩
                  rw [hv.out]
                  go_wp2_with fail
                  refine (refGuar_any p1 _).mono ?_
                  rintro e w5 ⟨rfl, rfl⟩
                  rw [g3.out]
                  clear hn h hm h'
                  go_wp2
                  refine ⟨?_, ?_⟩
                  · first
                      | exact ⟨j + 1, hlt, hj21, by go_num, hB⟩
                      | ((repeat apply Exists.intro); exact ⟨⟨j + 1, hlt, hj21, by go_num, hB⟩, rfl⟩)
                      | (refine ⟨_, _, _, _, _, _, _, _, _, _, ⟨j + 1, hlt, hj21, ?_⟩, rfl, rfl, rfl, rfl, rfl, rfl, rfl, rfl, rfl, rfl⟩; go_num)
                  · first | (simp [intOf, lenV]; omega) | (simp [intOf]; omega) | (simp [intOf]; done)
                | some g =>
                  have g1 : guaN p1 = g := by unfold guaN; rw [hg]
                  have g2 : guaE p1 = 0 := by unfold guaE; rw [hg]
                  have g3 : guaR p1 = g := by unfold guaR; rw [hg]
                  have z2 : max (g : Int) 0 = g := by omega
                  replace hg := hide hg
                  replace g1 := hide g1
                  replace g2 := hide g2
                  replace g3 := hide g3
                  go_wp2_with fail
                  refine (guar_any p1 _ (hL.out.ext hB)).mono ?_
                  rintro e w4 ⟨rfl, hE4⟩
                  rw [g1.out, g2.out]
                  replace hB := hB.trans (hE4.mono hB.size)
                  clear hE4
                  go_wp2_with fail
                  refine (refRead_any p1 _).mono ?_
                  rintro e w5 ⟨rfl, rfl⟩
                  rw [hv.out]
                  go_wp2_with fail
                  refine (refGuar_any p1 _).mono ?_
                  rintro e w5 ⟨rfl, rfl⟩
                  rw [g3.out]
                  clear hn h hm h'
                  go_wp2
                  refine ⟨?_, ?_⟩
                  · first
                      | exact ⟨j + 1, hlt, hj21, by go_num, hB⟩
                      | ((repeat apply Exists.intro); exact ⟨⟨j + 1, hlt, hj21, by go_num, hB⟩, rfl⟩)
                      | (refine ⟨_, _, _, _, _, _, _, _, _, _, ⟨j + 1, hlt, hj21, ?_⟩, rfl, rfl, rfl, rfl, rfl, rfl, rfl, rfl, rfl, rfl⟩; go_num)
                  · first | (simp [intOf, lenV]; omega) | (simp [intOf]; omega) | (simp [intOf]; done)
              | false =>
                have hv : lev p1 = 0 := by unfold lev; rw [hl]; rfl
                have hc := chk_out hl
                replace hl := hide hl
                replace hv := hide hv
                replace hc := hide hc
                go_wp2_with fail
                refine (read_any p1 _ (hL.out.ext hB)).mono ?_
                rintro e w3 ⟨rfl, rfl⟩
                rw [hv.out, hc.out]
                clear hra hp1 hcc hff hb1
                cases hg : gua p1 with
                | none =>
                  have g1 : guaN p1 = 0 := by unfold guaN; rw [hg]
                  have g2 : guaE p1 = 190 := by unfold guaE; rw [hg]
                  obtain ⟨z, hz⟩ : ∃ z : Int, z = -1 := ⟨_, rfl⟩
                  have g3 : guaR p1 = z := by unfold guaR; rw [hg, hz]
                  have z1 : z < 0 := by omega
                  have z2 : max z 0 = 0 := by omega
                  have z3 : ¬ (0 ≤ z) := by omega
                  clear hz
                  replace hg := hide hg
                  replace g1 := hide g1
                  replace g2 := hide g2
                  replace g3 := hide g3
                  go_wp2_with fail
                  refine (guar_any p1 _ (hL.out.ext hB)).mono ?_
                  rintro e w4 ⟨rfl, hE4⟩
                  rw [g1.out, g2.out]
                  replace hB := hB.trans (hE4.mono hB.size)
                  clear hE4
                  go_wp2_with fail
                  refine (refRead_any p1 _).mono ?_
                  rintro e w5 ⟨rfl, rfl⟩
                  rw [hv.out]
                  go_wp2_with fail
                  refine (refGuar_any p1 _).mono ?_
                  rintro e w5 ⟨rfl, rfl⟩
                  rw [g3.out]
                  clear hn h hm h'
                  go_wp2
                  refine ⟨?_, ?_⟩
                  · first
                      | exact ⟨j + 1, hlt, hj21, by go_num, hB⟩
                      | ((repeat apply Exists.intro); exact ⟨⟨j + 1, hlt, hj21, by go_num, hB⟩, rfl⟩)
                      | (refine ⟨_, _, _, _, _, _, _, _, _, _, ⟨j + 1, hlt, hj21, ?_⟩, rfl, rfl, rfl, rfl, rfl, rfl, rfl, rfl, rfl, rfl⟩; go_num)
                  · first | (simp [intOf, lenV]; omega) | (simp [intOf]; omega) | (simp [intOf]; done)
                | some g =>
                  have g1 : guaN p1 = g := by unfold guaN; rw [hg]
                  have g2 : guaE p1 = 0 := by unfold guaE; rw [hg]
                  have g3 : guaR p1 = g := by unfold guaR; rw [hg]
                  have z2 : max (g : Int) 0 = g := by omega
                  replace hg := hide hg
                  replace g1 := hide g1
                  replace g2 := hide g2
                  replace g3 := hide g3
                  go_wp2_with fail
                  refine (guar_any p1 _ (hL.out.ext hB)).mono ?_
                  rintro e w4 ⟨rfl, hE4⟩
                  rw [g1.out, g2.out]
                  replace hB := hB.trans (hE4.mono hB.size)
                  clear hE4
                  go_wp2_with fail
                  refine (refRead_any p1 _).mono ?_
                  rintro e w5 ⟨rfl, rfl⟩
                  rw [hv.out]
                  go_wp2_with fail
                  refine (refGuar_any p1 _).mono ?_
                  rintro e w5 ⟨rfl, rfl⟩
                  rw [g3.out]
                  clear hn h hm h'
                  go_wp2
                  refine ⟨?_, ?_⟩
                  · first
                      | exact ⟨j + 1, hlt, hj21, by go_num, hB⟩
                      | ((repeat apply Exists.intro); exact ⟨⟨j + 1, hlt, hj21, by go_num, hB⟩, rfl⟩)
                      | (refine ⟨_, _, _, _, _, _, _, _, _, _, ⟨j + 1, hlt, hj21, ?_⟩, rfl, rfl, rfl, rfl, rfl, rfl, rfl, rfl, rfl, rfl⟩; go_num)
                  · first | (simp [intOf, lenV]; omega) | (simp [intOf]; omega) | (simp [intOf]; done)
          · obtain rfl : j = m := by omega
            go_wp2
            go_ret
            exact ⟨rfl, hB⟩
end Go.Proofs.YtbmcbbcgambflaaDoor
