/- BitsTurns: the walk. -/
import Derived.Test.YtkiklbngfocljaaDoorBitT
namespace Go.Proofs.YtkiklbngfocljaaDoor
open Go.RowKit

set_option maxRecDepth 100000 in
set_option maxHeartbeats 8000000 in
theorem bitsTurns_any (A1 : Option Addr) (n1 c1 : Nat) (xs : List Nat) (i : Int) (w : World) (hn1 : n1 = xs.length) (hc1 : n1 ≤ c1) (h1 : Rd wE w.heap.size w A1 xs) (hfx : Fit xs) (hL : LaidT w) :
    Calls Tryd.prog 6 #[.agg #[.slice A1 n1 c1], .int .i64 i] w fun e w' => e = .returned (.bool true) ∧ Ext w w' := by
  replace h1 := hide h1
  replace hn1 := hide hn1
  replace hL := hide hL
  go_enter Tryd.func6, Tryd.ntmps6
  go_upto_region 1 with fail
  obtain ⟨w0, hw⟩ : ∃ x, x = World.alloc w (.cells #[.slice A1 n1 c1] 24) := ⟨_, rfl⟩
  rw [← hw]
  have x2 : Hid (Box w0 (World.heap w).size 24 (.slice A1 n1 c1)) := hide (by rw [hw]; exact Box.new _ _ _)
  have hE : Ext w w0 := by rw [hw]; exact (Below.refl _ _).alloc (Nat.le_refl _) _
  have hlt : (World.heap w).size < (World.heap w0).size := by rw [hw]; simp
  clear hw
  have hB := hE
  clear hlt
  obtain ⟨b2, hb2⟩ : ∃ b, b = w.heap.size := ⟨_, rfl⟩
  rw [← hb2] at x2 ⊢
  go_wp2_with fail
  refine (wakes_any _ (hL.out.ext hB)).mono ?_
  rintro e w1 ⟨rfl, hE1⟩
  have hc2 := (x2.out.ext hE1).cell
  have hs2 := (x2.out.ext hE1).lt
  clear hE
  have hE := hE1
  replace hB := hB.trans (hE.mono hB.size)
  clear hE hE1 x2 hb2
  go_wp2_with fail
  refine (own_any A1 n1 c1 xs _ (h1.out.ext hB) hn1.out hc1).mono ?_
  rintro e w2 ⟨v, rfl, hO, hE⟩
  replace hB := hB.trans (hE.mono hB.size)
  have hf : Fit (xs.take 160) := fun x hx => hfx x (List.mem_of_mem_take hx)
  have hl : (xs.take 160).length ≤ 160 := by rw [List.length_take]; omega
  generalize xs.take 160 = a at *
  obtain ⟨A5, c5, rfl, r5, hc5l, -⟩ := hO.rd
  obtain ⟨n5, e5⟩ : ∃ m, m = a.length := ⟨_, rfl⟩
  rw [← e5] at hl hc5l ⊢
  replace e5 := hide e5
  clear hO hE hc2 hs2 h1 hn1 hc1 hfx hL
  go_wp2_with fail
  obtain ⟨w3, hw⟩ : ∃ x, x = World.alloc w2 (.cells #[.slice A5 n5 c5] 24) := ⟨_, rfl⟩
  rw [← hw]
  have x5 : Hid (Box w3 (World.heap w2).size 24 (.slice A5 n5 c5)) := hide (by rw [hw]; exact Box.new _ _ _)
  have hE : Ext w2 w3 := by rw [hw]; exact (Below.refl _ _).alloc (Nat.le_refl _) _
  have hlt : (World.heap w2).size < (World.heap w3).size := by rw [hw]; simp
  clear hw
  have r5' := hide (r5.ext hE)
  clear r5
  replace hB := hB.trans (hE.mono hB.size)
  obtain ⟨p5, hp⟩ : ∃ x, x = (World.heap w2).size := ⟨_, rfl⟩
  rw [← hp] at x5 hlt ⊢
  clear hp
  have T5 : Ext w3 w3 := Below.refl _ _
  have hc5 := x5.out.cell
  have hs5 := x5.out.lt
  clear hE hlt
  refine (with_any A5 n5 c5 a i _ (r5'.out.ext T5) e5.out (by omega) hf).mono ?_
  rintro e w4 ⟨v, rfl, hO, hE⟩
  replace hB := hB.trans (hE.mono hB.size)
  replace T5 := T5.trans (hE.mono T5.size)
  replace hc5 := (x5.out.ext T5).cell
  replace hs5 := (x5.out.ext T5).lt
  obtain ⟨A6, c6, rfl, r6, hc6l, -⟩ := hO.rd
  obtain ⟨m6, e6⟩ : ∃ m, m = (withS a i).length := ⟨_, rfl⟩
  rw [← e6] at hc6l ⊢
  have hl6 : m6 ≤ 1000 := by rw [e6]; exact withS_len a i (by rw [← e5.out]; omega)
  replace e6 := hide e6
  clear hO hE
  cases hm : mayB i with
  | false =>
    have hE2 : withE i = 2 := by unfold withE; rw [hm]; rfl
    have hM0 : withS a i = [] := by unfold withS; rw [hm]; rfl
    have hm60 : m6 = 0 := by rw [e6.out, hM0]; rfl
    have hW : Hid (withoutS a i = ofW a) := hide (by unfold withoutS; rw [hm, if_neg (by decide)]; exact trim_ofW hf)
    have hi : i < 0 ∨ 10000 ≤ i := by
      by_cases h0 : 0 ≤ i
      · by_cases h1 : i < 10000
        · rw [mayB_in h0 h1] at hm; cases hm
        · right; omega
      · left; omega
    rw [hE2]
    replace hm := hide hm
    replace hM0 := hide hM0
    clear hE2 r6
    subst hm60
    go_upto_region 6 with fail
    obtain ⟨w5, hw⟩ : ∃ x, x = World.alloc w4 (.cells #[.slice A6 0 c6] 24) := ⟨_, rfl⟩
    rw [← hw]
    have x6 : Hid (Box w5 (World.heap w4).size 24 (.slice A6 0 c6)) := hide (by rw [hw]; exact Box.new _ _ _)
    have hE : Ext w4 w5 := by rw [hw]; exact (Below.refl _ _).alloc (Nat.le_refl _) _
    have hlt : (World.heap w4).size < (World.heap w5).size := by rw [hw]; simp
    clear hw
    replace hB := hB.trans (hE.mono hB.size)
    replace T5 := T5.trans (hE.mono T5.size)
    replace hc5 := (x5.out.ext T5).cell
    replace hs5 := (x5.out.ext T5).lt
    obtain ⟨p6, hp⟩ : ∃ x, x = (World.heap w4).size := ⟨_, rfl⟩
    rw [← hp] at x6 hlt ⊢
    clear hp
    have hc6 := x6.out.cell
    have hs6 := x6.out.lt
    have hS : Ext w5 w5.drew := (Below.refl _ _).drew
    replace T5 := T5.drew
    replace hB := hB.drew
    clear hE hlt
    by_cases h0 : i < 0
    · refine wp_region_mix (fun W => Below w5.heap.size w5 W) [(0, true), (1, true), (2, true), (3, true), (4, true), (5, true), (6, true), (7, true), (8, true), (9, true), (10, true), (11, true), (12, true), (13, true), (14, true), (16, true), (15, false), (17, false), (18, true), (19, true)] (by kernel_rfl) (by kernel_rfl) (by kernel_rfl) (by kernel_rfl) (fun _ _ d _ _ h => by cases d <;> exact h) ?_ ?_
      · exact hS
      iterate 3
        apply mix_q rfl rfl
        · intro W hW
          have hcW := (bcell hW).1
          go_simp
          try exact rfl
        simp only [Act.put, List.setIfInBounds_toArray, List.set_cons_zero, List.set_cons_succ]
      iterate 2
        refine mix_off rfl (wanted_is rfl rfl rfl rfl rfl) ?_
        simp only [Act.put, List.setIfInBounds_toArray, List.set_cons_zero, List.set_cons_succ]
      iterate 2
        apply mix_q rfl rfl
        · intro W hW
          have hcW := (bcell hW).1
          go_simp
          try exact rfl
        simp only [Act.put, List.setIfInBounds_toArray, List.set_cons_zero, List.set_cons_succ]
      iterate 4
        apply mix_on rfl (wanted_is rfl rfl rfl rfl rfl)
        · intro W hW
          have hcW := (bcell hW).1
          go_simp
          try exact rfl
        simp only [Act.put, List.setIfInBounds_toArray, List.set_cons_zero, List.set_cons_succ]
      iterate 2
        apply mix_q rfl rfl
        · intro W hW
          have hcW := (bcell hW).1
          go_simp
          try exact rfl
        simp only [Act.put, List.setIfInBounds_toArray, List.set_cons_zero, List.set_cons_succ]
      iterate 3
        apply mix_on rfl (wanted_is rfl rfl rfl rfl rfl)
        · intro W hW
          have hcW := (bcell hW).1
          go_simp
          try exact rfl
        simp only [Act.put, List.setIfInBounds_toArray, List.set_cons_zero, List.set_cons_succ]
      refine mix_won rfl (wanted_is rfl rfl rfl rfl rfl) (fun K hK => ?_)
      go_simp
      refine (without_any A5 n5 c5 a i _ (r5'.out.ext T5) e5.out (by omega) hf hc5l).mono ?_
      rintro e w7 ⟨v, rfl, hO, hE⟩
      refine hK _ _ ?_ ?_
      · exact hS.trans (hE.mono hS.size)
      clear hK K
      try simp only [Act.put, List.setIfInBounds_toArray, List.set_cons_zero, List.set_cons_succ]
      replace hS := hS.trans (hE.mono hS.size)
      replace hB := hB.trans (hE.mono hB.size)
      replace T5 := T5.trans (hE.mono T5.size)
      obtain ⟨A7, c7, rfl, r7, -, -⟩ := hO.rd
      obtain ⟨m7, e7⟩ : ∃ m, m = (withoutS a i).length := ⟨_, rfl⟩
      have hl7 : m7 ≤ 1000 := by rw [e7, hW.out, ]; exact Nat.le_trans (ofW_le a) (by rw [← e5.out]; omega)
      rw [← e7]
      replace e7 := hide e7
      replace r7 := hide r7
      clear hO
      refine mix_won rfl (wanted_is rfl rfl rfl rfl rfl) (fun K hK => ?_)
      go_simp
      refine (same_any A7 A5 m7 c7 n5 c5 (withoutS a i) a _ r7.out e7.out hl7 (withoutS_fit hf i) (r5'.out.ext T5) e5.out (by omega) hf).mono ?_
      rintro e w8 ⟨rfl, hE⟩
      refine hK _ _ ?_ ?_
      · exact hS.trans (hE.mono hS.size)
      clear hK K
      try simp only [Act.put, List.setIfInBounds_toArray, List.set_cons_zero, List.set_cons_succ]
      replace hS := hS.trans (hE.mono hS.size)
      replace hB := hB.trans (hE.mono hB.size)
      replace T5 := T5.trans (hE.mono T5.size)
      have hfin : Hid (decide (ofW (withoutS a i) = ofW a) = true) := hide (decide_eq_true (by rw [hW.out]; exact ofW_ofW hf))
      iterate 2
        apply mix_q rfl rfl
        · intro W hW
          have hcW := (bcell hW).1
          go_simp
          try exact rfl
        simp only [Act.put, List.setIfInBounds_toArray, List.set_cons_zero, List.set_cons_succ]
      refine mix_nil ?_
      go_wp2
      go_ret
      exact ⟨by rw [hfin.out]; rfl, hB⟩
    · have h1 : 10000 ≤ i := by omega
      refine wp_region_mix (fun W => Below w5.heap.size w5 W) [(0, true), (1, true), (2, true), (3, true), (4, true), (5, true), (6, true), (7, true), (8, true), (9, true), (10, true), (11, true), (12, true), (13, true), (14, true), (16, true), (15, false), (17, false), (18, true), (19, true)] (by kernel_rfl) (by kernel_rfl) (by kernel_rfl) (by kernel_rfl) (fun _ _ d _ _ h => by cases d <;> exact h) ?_ ?_
      · exact hS
      iterate 3
        apply mix_q rfl rfl
        · intro W hW
          have hcW := (bcell hW).1
          go_simp
          try exact rfl
        simp only [Act.put, List.setIfInBounds_toArray, List.set_cons_zero, List.set_cons_succ]
      iterate 2
        apply mix_on rfl (wanted_is rfl rfl rfl rfl rfl)
        · intro W hW
          have hcW := (bcell hW).1
          go_simp
          try exact rfl
        simp only [Act.put, List.setIfInBounds_toArray, List.set_cons_zero, List.set_cons_succ]
      iterate 2
        apply mix_q rfl rfl
        · intro W hW
          have hcW := (bcell hW).1
          go_simp
          try exact rfl
        simp only [Act.put, List.setIfInBounds_toArray, List.set_cons_zero, List.set_cons_succ]
      iterate 4
        apply mix_on rfl (wanted_is rfl rfl rfl rfl rfl)
        · intro W hW
          have hcW := (bcell hW).1
          go_simp
          try exact rfl
        simp only [Act.put, List.setIfInBounds_toArray, List.set_cons_zero, List.set_cons_succ]
      iterate 2
        apply mix_q rfl rfl
        · intro W hW
          have hcW := (bcell hW).1
          go_simp
          try exact rfl
        simp only [Act.put, List.setIfInBounds_toArray, List.set_cons_zero, List.set_cons_succ]
      iterate 3
        apply mix_on rfl (wanted_is rfl rfl rfl rfl rfl)
        · intro W hW
          have hcW := (bcell hW).1
          go_simp
          try exact rfl
        simp only [Act.put, List.setIfInBounds_toArray, List.set_cons_zero, List.set_cons_succ]
      refine mix_won rfl (wanted_is rfl rfl rfl rfl rfl) (fun K hK => ?_)
      go_simp
      refine (without_any A5 n5 c5 a i _ (r5'.out.ext T5) e5.out (by omega) hf hc5l).mono ?_
      rintro e w7 ⟨v, rfl, hO, hE⟩
      refine hK _ _ ?_ ?_
      · exact hS.trans (hE.mono hS.size)
      clear hK K
      try simp only [Act.put, List.setIfInBounds_toArray, List.set_cons_zero, List.set_cons_succ]
      replace hS := hS.trans (hE.mono hS.size)
      replace hB := hB.trans (hE.mono hB.size)
      replace T5 := T5.trans (hE.mono T5.size)
      obtain ⟨A7, c7, rfl, r7, -, -⟩ := hO.rd
      obtain ⟨m7, e7⟩ : ∃ m, m = (withoutS a i).length := ⟨_, rfl⟩
      have hl7 : m7 ≤ 1000 := by rw [e7, hW.out, ]; exact Nat.le_trans (ofW_le a) (by rw [← e5.out]; omega)
      rw [← e7]
      replace e7 := hide e7
      replace r7 := hide r7
      clear hO
      refine mix_won rfl (wanted_is rfl rfl rfl rfl rfl) (fun K hK => ?_)
      go_simp
      refine (same_any A7 A5 m7 c7 n5 c5 (withoutS a i) a _ r7.out e7.out hl7 (withoutS_fit hf i) (r5'.out.ext T5) e5.out (by omega) hf).mono ?_
      rintro e w8 ⟨rfl, hE⟩
      refine hK _ _ ?_ ?_
      · exact hS.trans (hE.mono hS.size)
      clear hK K
      try simp only [Act.put, List.setIfInBounds_toArray, List.set_cons_zero, List.set_cons_succ]
      replace hS := hS.trans (hE.mono hS.size)
      replace hB := hB.trans (hE.mono hB.size)
      replace T5 := T5.trans (hE.mono T5.size)
      have hfin : Hid (decide (ofW (withoutS a i) = ofW a) = true) := hide (decide_eq_true (by rw [hW.out]; exact ofW_ofW hf))
      iterate 2
        apply mix_q rfl rfl
        · intro W hW
          have hcW := (bcell hW).1
          go_simp
          try exact rfl
        simp only [Act.put, List.setIfInBounds_toArray, List.set_cons_zero, List.set_cons_succ]
      refine mix_nil ?_
      go_wp2
      go_ret
      exact ⟨by rw [hfin.out]; rfl, hB⟩
  | true =>
    have hE2 : withE i = 0 := by unfold withE; rw [hm]; rfl
    rw [hE2]
    clear hE2
    go_wp2_with fail
    obtain ⟨w5, hw⟩ : ∃ x, x = World.alloc w4 (.cells #[.slice A6 m6 c6] 24) := ⟨_, rfl⟩
    rw [← hw]
    have x6 : Hid (Box w5 (World.heap w4).size 24 (.slice A6 m6 c6)) := hide (by rw [hw]; exact Box.new _ _ _)
    have hE : Ext w4 w5 := by rw [hw]; exact (Below.refl _ _).alloc (Nat.le_refl _) _
    have hlt : (World.heap w4).size < (World.heap w5).size := by rw [hw]; simp
    clear hw
    replace hB := hB.trans (hE.mono hB.size)
    replace T5 := T5.trans (hE.mono T5.size)
    replace hc5 := (x5.out.ext T5).cell
    replace hs5 := (x5.out.ext T5).lt
    have r6' := hide (r6.ext hE)
    obtain ⟨p6, hp⟩ : ∃ x, x = (World.heap w4).size := ⟨_, rfl⟩
    rw [← hp] at x6 hlt ⊢
    clear hp
    have T6 : Ext w5 w5 := Below.refl _ _
    have hc6 := x6.out.cell
    have hs6 := x6.out.lt
    clear hE hlt r6
    refine (without_any A5 n5 c5 a i _ (r5'.out.ext T5) e5.out (by omega) hf hc5l).mono ?_
    rintro e w6 ⟨v, rfl, hO, hE⟩
    replace hB := hB.trans (hE.mono hB.size)
    replace T5 := T5.trans (hE.mono T5.size)
    replace hc5 := (x5.out.ext T5).cell
    replace hs5 := (x5.out.ext T5).lt
    replace T6 := T6.trans (hE.mono T6.size)
    replace hc6 := (x6.out.ext T6).cell
    replace hs6 := (x6.out.ext T6).lt
    obtain ⟨A8, c8, rfl, r8, -, -⟩ := hO.rd
    obtain ⟨m8, e8⟩ : ∃ m, m = (withoutS a i).length := ⟨_, rfl⟩
    rw [← e8]
    have hl8 : m8 ≤ 1000 := by rw [e8]; exact withoutS_len a i (by rw [← e5.out]; omega)
    replace e8 := hide e8
    clear hO hE
    go_wp2_with fail
    obtain ⟨w7, hw⟩ : ∃ x, x = World.alloc w6 (.cells #[.slice A8 m8 c8] 24) := ⟨_, rfl⟩
    rw [← hw]
    have x8 : Hid (Box w7 (World.heap w6).size 24 (.slice A8 m8 c8)) := hide (by rw [hw]; exact Box.new _ _ _)
    have hE : Ext w6 w7 := by rw [hw]; exact (Below.refl _ _).alloc (Nat.le_refl _) _
    have hlt : (World.heap w6).size < (World.heap w7).size := by rw [hw]; simp
    clear hw
    replace hB := hB.trans (hE.mono hB.size)
    replace T5 := T5.trans (hE.mono T5.size)
    replace hc5 := (x5.out.ext T5).cell
    replace hs5 := (x5.out.ext T5).lt
    replace T6 := T6.trans (hE.mono T6.size)
    replace hc6 := (x6.out.ext T6).cell
    replace hs6 := (x6.out.ext T6).lt
    have r8' := hide (r8.ext hE)
    obtain ⟨p8, hp⟩ : ∃ x, x = (World.heap w6).size := ⟨_, rfl⟩
    rw [← hp] at x8 hlt ⊢
    clear hp
    have T8 : Ext w7 w7 := Below.refl _ _
    have hc8 := x8.out.cell
    have hs8 := x8.out.lt
    clear hE hlt r8
    refine (with_any A8 m8 c8 (withoutS a i) i _ (r8'.out.ext T8) e8.out hl8 (withoutS_fit hf i)).mono ?_
    rintro e w8 ⟨v, rfl, hO, hE⟩
    rw [show withE i = 0 by unfold withE; rw [hm]; rfl]
    rw [turn1 hf hm] at hO
    replace hB := hB.trans (hE.mono hB.size)
    replace T5 := T5.trans (hE.mono T5.size)
    replace hc5 := (x5.out.ext T5).cell
    replace hs5 := (x5.out.ext T5).lt
    replace T6 := T6.trans (hE.mono T6.size)
    replace hc6 := (x6.out.ext T6).cell
    replace hs6 := (x6.out.ext T6).lt
    replace T8 := T8.trans (hE.mono T8.size)
    replace hc8 := (x8.out.ext T8).cell
    replace hs8 := (x8.out.ext T8).lt
    obtain ⟨A9, c9, rfl, r9, -, -⟩ := hO.rd
    rw [← e6.out] at hO ⊢
    clear hO hE
    go_upto_region 9 with fail
    obtain ⟨w9, hw⟩ : ∃ x, x = World.alloc w8 (.cells #[.slice A9 m6 c9] 24) := ⟨_, rfl⟩
    rw [← hw]
    have x9 : Hid (Box w9 (World.heap w8).size 24 (.slice A9 m6 c9)) := hide (by rw [hw]; exact Box.new _ _ _)
    have hE : Ext w8 w9 := by rw [hw]; exact (Below.refl _ _).alloc (Nat.le_refl _) _
    have hlt : (World.heap w8).size < (World.heap w9).size := by rw [hw]; simp
    clear hw
    replace hB := hB.trans (hE.mono hB.size)
    replace T5 := T5.trans (hE.mono T5.size)
    replace hc5 := (x5.out.ext T5).cell
    replace hs5 := (x5.out.ext T5).lt
    replace T6 := T6.trans (hE.mono T6.size)
    replace hc6 := (x6.out.ext T6).cell
    replace hs6 := (x6.out.ext T6).lt
    replace T8 := T8.trans (hE.mono T8.size)
    replace hc8 := (x8.out.ext T8).cell
    replace hs8 := (x8.out.ext T8).lt
    have r9' := hide (r9.ext hE)
    obtain ⟨p9, hp⟩ : ∃ x, x = (World.heap w8).size := ⟨_, rfl⟩
    rw [← hp] at x9 hlt ⊢
    clear hp
    have T9 : Ext w9 w9 := Below.refl _ _
    have hc9 := x9.out.cell
    have hs9 := x9.out.lt
    clear hE hlt r9
    have hS : Ext w9 w9.drew := (Below.refl _ _).drew
    replace T5 := T5.drew
    replace T6 := T6.drew
    replace T8 := T8.drew
    replace T9 := T9.drew
    replace hB := hB.drew
    have f1 : Hid ((mayB i && has (ofW (withS a i)) i.toNat) = true) := hide (by rw [hm, ofW_withS hf, has_withS hf hm]; simp)
    have f2 : Hid ((mayB i && has (ofW (withoutS a i)) i.toNat) = false) := hide (by rw [hm, ofW_withoutS hf, has_withoutS hf, hm]; simp)
    refine wp_region_mix (fun W => Below w9.heap.size w9 W) [(0, true), (1, true), (2, true), (3, true), (4, true), (5, false), (6, true), (7, true), (8, true), (9, true), (10, true), (11, false), (12, true), (13, true), (14, true), (15, true), (16, false), (17, true), (18, true), (19, true), (20, true), (21, true), (23, true), (22, false), (24, false), (25, true), (26, true)] (by kernel_rfl) (by kernel_rfl) (by kernel_rfl) (by kernel_rfl) (fun _ _ d _ _ h => by cases d <;> exact h) ?_ ?_
    · exact hS
    iterate 3
      apply mix_q rfl rfl
      · intro W hW
        have hcW := (bcell hW).1
        go_simp
        try exact rfl
      simp only [Act.put, List.setIfInBounds_toArray, List.set_cons_zero, List.set_cons_succ]
    iterate 2
      apply mix_on rfl (wanted_is rfl rfl rfl rfl rfl)
      · intro W hW
        have hcW := (bcell hW).1
        go_simp
        try exact rfl
      simp only [Act.put, List.setIfInBounds_toArray, List.set_cons_zero, List.set_cons_succ]
    refine mix_won rfl (wanted_is rfl rfl rfl rfl rfl) (fun K hK => ?_)
    go_simp
    refine (has_any A6 m6 c6 (withS a i) i _ (r6'.out.ext T6) e6.out hl6 (withS_fit hf i)).mono ?_
    rintro e w10 ⟨rfl, hE⟩
    refine hK _ _ ?_ ?_
    · exact hS.trans (hE.mono hS.size)
    clear hK K
    try simp only [Act.put, List.setIfInBounds_toArray, List.set_cons_zero, List.set_cons_succ]
    replace hS := hS.trans (hE.mono hS.size)
    replace hB := hB.trans (hE.mono hB.size)
    replace T5 := T5.trans (hE.mono T5.size)
    replace T6 := T6.trans (hE.mono T6.size)
    replace T8 := T8.trans (hE.mono T8.size)
    replace T9 := T9.trans (hE.mono T9.size)
    rw [f1.out]
    clear hE
    iterate 1
      apply mix_on rfl (wanted_is rfl rfl rfl rfl rfl)
      · intro W hW
        have hcW := (bcell hW).1
        go_simp
        try exact rfl
      simp only [Act.put, List.setIfInBounds_toArray, List.set_cons_zero, List.set_cons_succ]
    iterate 2
      apply mix_q rfl rfl
      · intro W hW
        have hcW := (bcell hW).1
        go_simp
        try exact rfl
      simp only [Act.put, List.setIfInBounds_toArray, List.set_cons_zero, List.set_cons_succ]
    iterate 2
      apply mix_on rfl (wanted_is rfl rfl rfl rfl rfl)
      · intro W hW
        have hcW := (bcell hW).1
        go_simp
        try exact rfl
      simp only [Act.put, List.setIfInBounds_toArray, List.set_cons_zero, List.set_cons_succ]
    refine mix_won rfl (wanted_is rfl rfl rfl rfl rfl) (fun K hK => ?_)
    go_simp
    refine (has_any A8 m8 c8 (withoutS a i) i _ (r8'.out.ext T8) e8.out hl8 (withoutS_fit hf i)).mono ?_
    rintro e w11 ⟨rfl, hE⟩
    refine hK _ _ ?_ ?_
    · exact hS.trans (hE.mono hS.size)
    clear hK K
    try simp only [Act.put, List.setIfInBounds_toArray, List.set_cons_zero, List.set_cons_succ]
    replace hS := hS.trans (hE.mono hS.size)
    replace hB := hB.trans (hE.mono hB.size)
    replace T5 := T5.trans (hE.mono T5.size)
    replace T6 := T6.trans (hE.mono T6.size)
    replace T8 := T8.trans (hE.mono T8.size)
    replace T9 := T9.trans (hE.mono T9.size)
    rw [f2.out]
    clear hE
    iterate 2
      apply mix_q rfl rfl
      · intro W hW
        have hcW := (bcell hW).1
        go_simp
        try exact rfl
      simp only [Act.put, List.setIfInBounds_toArray, List.set_cons_zero, List.set_cons_succ]
    iterate 2
      apply mix_on rfl (wanted_is rfl rfl rfl rfl rfl)
      · intro W hW
        have hcW := (bcell hW).1
        go_simp
        try exact rfl
      simp only [Act.put, List.setIfInBounds_toArray, List.set_cons_zero, List.set_cons_succ]
    refine mix_won rfl (wanted_is rfl rfl rfl rfl rfl) (fun K hK => ?_)
    go_simp
    refine (same_any A9 A6 m6 c9 m6 c6 (withS a i) (withS a i) _ (r9'.out.ext T9) e6.out hl6 (withS_fit hf i) (r6'.out.ext T6) e6.out hl6 (withS_fit hf i)).mono ?_
    rintro e w12 ⟨rfl, hE⟩
    refine hK _ _ ?_ ?_
    · exact hS.trans (hE.mono hS.size)
    clear hK K
    try simp only [Act.put, List.setIfInBounds_toArray, List.set_cons_zero, List.set_cons_succ]
    replace hS := hS.trans (hE.mono hS.size)
    replace hB := hB.trans (hE.mono hB.size)
    replace T5 := T5.trans (hE.mono T5.size)
    replace T6 := T6.trans (hE.mono T6.size)
    replace T8 := T8.trans (hE.mono T8.size)
    replace T9 := T9.trans (hE.mono T9.size)
    clear hE
    iterate 1
      apply mix_on rfl (wanted_is rfl rfl rfl rfl rfl)
      · intro W hW
        have hcW := (bcell hW).1
        go_simp
        try exact rfl
      simp only [Act.put, List.setIfInBounds_toArray, List.set_cons_zero, List.set_cons_succ]
    iterate 2
      apply mix_q rfl rfl
      · intro W hW
        have hcW := (bcell hW).1
        go_simp
        try exact rfl
      simp only [Act.put, List.setIfInBounds_toArray, List.set_cons_zero, List.set_cons_succ]
    iterate 3
      apply mix_on rfl (wanted_is rfl rfl rfl rfl rfl)
      · intro W hW
        have hcW := (bcell hW).1
        go_simp
        try exact rfl
      simp only [Act.put, List.setIfInBounds_toArray, List.set_cons_zero, List.set_cons_succ]
    refine mix_won rfl (wanted_is rfl rfl rfl rfl rfl) (fun K hK => ?_)
    go_simp
    refine (without_any A6 m6 c6 (withS a i) i _ (r6'.out.ext T6) e6.out hl6 (withS_fit hf i) hc6l).mono ?_
    rintro e w13 ⟨v, rfl, hO, hE⟩
    refine hK _ _ ?_ ?_
    · exact hS.trans (hE.mono hS.size)
    clear hK K
    try simp only [Act.put, List.setIfInBounds_toArray, List.set_cons_zero, List.set_cons_succ]
    replace hS := hS.trans (hE.mono hS.size)
    replace hB := hB.trans (hE.mono hB.size)
    replace T5 := T5.trans (hE.mono T5.size)
    replace T6 := T6.trans (hE.mono T6.size)
    replace T8 := T8.trans (hE.mono T8.size)
    replace T9 := T9.trans (hE.mono T9.size)
    rw [turn2 hf hm] at hO
    obtain ⟨A13, c13, rfl, r13, -, -⟩ := hO.rd
    rw [← e8.out] at hO ⊢
    replace r13 := hide r13
    clear hO hE
    refine mix_won rfl (wanted_is rfl rfl rfl rfl rfl) (fun K hK => ?_)
    go_simp
    refine (same_any A13 A8 m8 c13 m8 c8 (withoutS a i) (withoutS a i) _ r13.out e8.out hl8 (withoutS_fit hf i) (r8'.out.ext T8) e8.out hl8 (withoutS_fit hf i)).mono ?_
    rintro e w14 ⟨rfl, hE⟩
    refine hK _ _ ?_ ?_
    · exact hS.trans (hE.mono hS.size)
    clear hK K
    try simp only [Act.put, List.setIfInBounds_toArray, List.set_cons_zero, List.set_cons_succ]
    replace hS := hS.trans (hE.mono hS.size)
    replace hB := hB.trans (hE.mono hB.size)
    replace T5 := T5.trans (hE.mono T5.size)
    replace T6 := T6.trans (hE.mono T6.size)
    replace T8 := T8.trans (hE.mono T8.size)
    replace T9 := T9.trans (hE.mono T9.size)
    clear hE
    iterate 1
      apply mix_on rfl (wanted_is rfl rfl rfl rfl rfl)
      · intro W hW
        have hcW := (bcell hW).1
        go_simp
        try exact rfl
      simp only [Act.put, List.setIfInBounds_toArray, List.set_cons_zero, List.set_cons_succ]
    iterate 1
      apply mix_q rfl rfl
      · intro W hW
        have hcW := (bcell hW).1
        go_simp
        try exact rfl
      simp only [Act.put, List.setIfInBounds_toArray, List.set_cons_zero, List.set_cons_succ]
    refine mix_nil ?_
    clear f1 f2 hc9 hs9 r9' r13
    replace hc5 := (x5.out.ext T5).cell
    replace hs5 := (x5.out.ext T5).lt
    replace hc6 := (x6.out.ext T6).cell
    replace hs6 := (x6.out.ext T6).lt
    replace hc8 := (x8.out.ext T8).cell
    replace hs8 := (x8.out.ext T8).lt
    go_wp2_with fail
    refine (has_any A5 n5 c5 a i _ (r5'.out.ext T5) e5.out (by omega) hf).mono ?_
    rintro e w15 ⟨rfl, hE⟩
    replace hB := hB.trans (hE.mono hB.size)
    replace T5 := T5.trans (hE.mono T5.size)
    replace hc5 := (x5.out.ext T5).cell
    replace hs5 := (x5.out.ext T5).lt
    replace T6 := T6.trans (hE.mono T6.size)
    replace hc6 := (x6.out.ext T6).cell
    replace hs6 := (x6.out.ext T6).lt
    replace T8 := T8.trans (hE.mono T8.size)
    replace hc8 := (x8.out.ext T8).cell
    replace hs8 := (x8.out.ext T8).lt
    clear hE
    have k1 := count_with hf hm
    have k2 := count_without hf hm
    have g1 : Hid (chkW (withS a i) = 0) := hide ((chk_good (withS_fit hf i)).2 (withS_good hf i))
    have g2 : Hid (chkW (withoutS a i) = 0) := hide ((chk_good (withoutS_fit hf i)).2 (withoutS_good hf i))
    obtain ⟨NM, hNM⟩ : ∃ x, x = (nums (ofW (withS a i))).length := ⟨_, rfl⟩
    obtain ⟨NL, hNL⟩ : ∃ x, x = (nums (ofW (withoutS a i))).length := ⟨_, rfl⟩
    obtain ⟨NB, hNB⟩ : ∃ x, x = (nums (ofW a)).length := ⟨_, rfl⟩
    have hbd : NB ≤ 64000 := by
      rw [hNB]
      have h1 := nums_length (ofW a)
      have h2 := ofW_le a
      have h3 := e5.out
      omega
    rw [ofW_withS hf] at hNM
    rw [ofW_withoutS hf] at hNL
    rw [← hNM, ← hNB] at k1
    rw [← hNB, ← hNL] at k2
    rw [← ofW_withS hf] at hNM
    rw [← ofW_withoutS hf] at hNL
    replace hNM := hide hNM
    replace hNL := hide hNL
    replace hNB := hide hNB
    obtain ⟨NB1, hNB1⟩ : ∃ x, x = NB + 1 := ⟨_, rfl⟩
    have u1 : IntKind.i64.wrap ((NB : Int) + 1) = (NB1 : Int) := by rw [IntWalk.i64_in _ (by omega)]; omega
    cases ht : has (ofW a) i.toNat with
    | true =>
      rw [ht, if_pos rfl] at k1 k2
      have u2 : IntKind.i64.wrap ((NB1 : Int) - 1) = (NM : Int) := by rw [IntWalk.i64_in _ (by omega)]; omega
      have u3 : IntKind.i64.wrap ((NB : Int) - 1) = (NL : Int) := by rw [IntWalk.i64_in _ (by omega)]; omega
      rw [hm]
      replace ht := hide ht
      replace k1 := hide k1
      replace k2 := hide k2
      replace hNB1 := hide hNB1
      go_upto_region 14 with fail
      have hS : Ext w15 w15.drew := (Below.refl _ _).drew
      replace T5 := T5.drew
      replace T6 := T6.drew
      replace T8 := T8.drew
      replace hB := hB.drew
      refine wp_region_mix (fun W => Below w15.heap.size w15 W) [(0, true), (2, true), (5, true), (1, false), (3, false), (4, true), (6, true), (7, true), (8, true), (9, true), (11, true), (13, true), (10, false), (12, false), (14, true), (15, true), (16, true), (17, true), (18, true), (19, false), (20, true), (21, true), (22, true), (23, true), (24, false), (25, true), (26, true), (27, true)] (by kernel_rfl) (by kernel_rfl) (by kernel_rfl) (by kernel_rfl) (fun _ _ d _ _ h => by cases d <;> exact h) ?_ ?_
      · exact hS
      iterate 3
        apply mix_q rfl rfl
        · intro W hW
          have hcW := (bcell hW).1
          go_simp
          try exact rfl
        simp only [Act.put, List.setIfInBounds_toArray, List.set_cons_zero, List.set_cons_succ]
      refine mix_w rfl rfl (fun K hK => ?_)
      go_simp
      refine (count_any A6 m6 c6 (withS a i) _ (r6'.out.ext T6) e6.out hl6 (withS_fit hf i)).mono ?_
      rintro e w16 ⟨rfl, hE⟩
      refine hK _ _ ?_ ?_
      · exact hS.trans (hE.mono hS.size)
      clear hK K
      try simp only [Act.put, List.setIfInBounds_toArray, List.set_cons_zero, List.set_cons_succ]
      replace hS := hS.trans (hE.mono hS.size)
      replace hB := hB.trans (hE.mono hB.size)
      replace T5 := T5.trans (hE.mono T5.size)
      replace T6 := T6.trans (hE.mono T6.size)
      replace T8 := T8.trans (hE.mono T8.size)
      clear hE
      rw [← hNM.out]
      refine mix_w rfl rfl (fun K hK => ?_)
      go_simp
      refine (count_any A5 n5 c5 a _ (r5'.out.ext T5) e5.out (by omega) hf).mono ?_
      rintro e w17 ⟨rfl, hE⟩
      refine hK _ _ ?_ ?_
      · exact hS.trans (hE.mono hS.size)
      clear hK K
      try simp only [Act.put, List.setIfInBounds_toArray, List.set_cons_zero, List.set_cons_succ]
      replace hS := hS.trans (hE.mono hS.size)
      replace hB := hB.trans (hE.mono hB.size)
      replace T5 := T5.trans (hE.mono T5.size)
      replace T6 := T6.trans (hE.mono T6.size)
      replace T8 := T8.trans (hE.mono T8.size)
      clear hE
      rw [← hNB.out]
      iterate 4
        apply mix_q rfl rfl
        · intro W hW
          have hcW := (bcell hW).1
          go_simp
          try exact rfl
        simp only [Act.put, List.setIfInBounds_toArray, List.set_cons_zero, List.set_cons_succ]
      iterate 3
        apply mix_on rfl (wanted_is rfl rfl rfl rfl rfl)
        · intro W hW
          have hcW := (bcell hW).1
          go_simp
          try exact rfl
        simp only [Act.put, List.setIfInBounds_toArray, List.set_cons_zero, List.set_cons_succ]
      refine mix_won rfl (wanted_is rfl rfl rfl rfl rfl) (fun K hK => ?_)
      go_simp
      refine (count_any A8 m8 c8 (withoutS a i) _ (r8'.out.ext T8) e8.out hl8 (withoutS_fit hf i)).mono ?_
      rintro e w18 ⟨rfl, hE⟩
      refine hK _ _ ?_ ?_
      · exact hS.trans (hE.mono hS.size)
      clear hK K
      try simp only [Act.put, List.setIfInBounds_toArray, List.set_cons_zero, List.set_cons_succ]
      replace hS := hS.trans (hE.mono hS.size)
      replace hB := hB.trans (hE.mono hB.size)
      replace T5 := T5.trans (hE.mono T5.size)
      replace T6 := T6.trans (hE.mono T6.size)
      replace T8 := T8.trans (hE.mono T8.size)
      clear hE
      rw [← hNL.out]
      refine mix_won rfl (wanted_is rfl rfl rfl rfl rfl) (fun K hK => ?_)
      go_simp
      refine (count_any A5 n5 c5 a _ (r5'.out.ext T5) e5.out (by omega) hf).mono ?_
      rintro e w19 ⟨rfl, hE⟩
      refine hK _ _ ?_ ?_
      · exact hS.trans (hE.mono hS.size)
      clear hK K
      try simp only [Act.put, List.setIfInBounds_toArray, List.set_cons_zero, List.set_cons_succ]
      replace hS := hS.trans (hE.mono hS.size)
      replace hB := hB.trans (hE.mono hB.size)
      replace T5 := T5.trans (hE.mono T5.size)
      replace T6 := T6.trans (hE.mono T6.size)
      replace T8 := T8.trans (hE.mono T8.size)
      clear hE
      rw [← hNB.out]
      iterate 2
        apply mix_on rfl (wanted_is rfl rfl rfl rfl rfl)
        · intro W hW
          have hcW := (bcell hW).1
          go_simp
          try exact rfl
        simp only [Act.put, List.setIfInBounds_toArray, List.set_cons_zero, List.set_cons_succ]
      iterate 2
        apply mix_q rfl rfl
        · intro W hW
          have hcW := (bcell hW).1
          go_simp
          try exact rfl
        simp only [Act.put, List.setIfInBounds_toArray, List.set_cons_zero, List.set_cons_succ]
      iterate 1
        apply mix_on rfl (wanted_is rfl rfl rfl rfl rfl)
        · intro W hW
          have hcW := (bcell hW).1
          go_simp
          try exact rfl
        simp only [Act.put, List.setIfInBounds_toArray, List.set_cons_zero, List.set_cons_succ]
      refine mix_won rfl (wanted_is rfl rfl rfl rfl rfl) (fun K hK => ?_)
      go_simp
      refine (check_any A6 m6 c6 (withS a i) _ (r6'.out.ext T6) e6.out (by omega) (withS_fit hf i)).mono ?_
      rintro e w20 ⟨rfl, hE⟩
      refine hK _ _ ?_ ?_
      · exact hS.trans (hE.mono hS.size)
      clear hK K
      try simp only [Act.put, List.setIfInBounds_toArray, List.set_cons_zero, List.set_cons_succ]
      replace hS := hS.trans (hE.mono hS.size)
      replace hB := hB.trans (hE.mono hB.size)
      replace T5 := T5.trans (hE.mono T5.size)
      replace T6 := T6.trans (hE.mono T6.size)
      replace T8 := T8.trans (hE.mono T8.size)
      clear hE
      rw [g1.out]
      iterate 1
        apply mix_on rfl (wanted_is rfl rfl rfl rfl rfl)
        · intro W hW
          have hcW := (bcell hW).1
          go_simp
          try exact rfl
        simp only [Act.put, List.setIfInBounds_toArray, List.set_cons_zero, List.set_cons_succ]
      iterate 2
        apply mix_q rfl rfl
        · intro W hW
          have hcW := (bcell hW).1
          go_simp
          try exact rfl
        simp only [Act.put, List.setIfInBounds_toArray, List.set_cons_zero, List.set_cons_succ]
      iterate 1
        apply mix_on rfl (wanted_is rfl rfl rfl rfl rfl)
        · intro W hW
          have hcW := (bcell hW).1
          go_simp
          try exact rfl
        simp only [Act.put, List.setIfInBounds_toArray, List.set_cons_zero, List.set_cons_succ]
      refine mix_won rfl (wanted_is rfl rfl rfl rfl rfl) (fun K hK => ?_)
      go_simp
      refine (check_any A8 m8 c8 (withoutS a i) _ (r8'.out.ext T8) e8.out (by omega) (withoutS_fit hf i)).mono ?_
      rintro e w21 ⟨rfl, hE⟩
      refine hK _ _ ?_ ?_
      · exact hS.trans (hE.mono hS.size)
      clear hK K
      try simp only [Act.put, List.setIfInBounds_toArray, List.set_cons_zero, List.set_cons_succ]
      replace hS := hS.trans (hE.mono hS.size)
      replace hB := hB.trans (hE.mono hB.size)
      replace T5 := T5.trans (hE.mono T5.size)
      replace T6 := T6.trans (hE.mono T6.size)
      replace T8 := T8.trans (hE.mono T8.size)
      clear hE
      rw [g2.out]
      iterate 1
        apply mix_on rfl (wanted_is rfl rfl rfl rfl rfl)
        · intro W hW
          have hcW := (bcell hW).1
          go_simp
          try exact rfl
        simp only [Act.put, List.setIfInBounds_toArray, List.set_cons_zero, List.set_cons_succ]
      iterate 2
        apply mix_q rfl rfl
        · intro W hW
          have hcW := (bcell hW).1
          go_simp
          try exact rfl
        simp only [Act.put, List.setIfInBounds_toArray, List.set_cons_zero, List.set_cons_succ]
      refine mix_nil ?_
      go_wp2
      go_ret
      exact ⟨rfl, hB⟩
    | false =>
      rw [ht, if_neg (by decide)] at k1 k2
      have u2 : IntKind.i64.wrap (NB1 : Int) = (NM : Int) := by rw [IntWalk.i64_in _ (by omega)]; omega
      have u3 : IntKind.i64.wrap (NB : Int) = (NL : Int) := by rw [IntWalk.i64_in _ (by omega)]; omega
      rw [hm]
      replace ht := hide ht
      replace k1 := hide k1
      replace k2 := hide k2
      replace hNB1 := hide hNB1
      go_upto_region 14 with fail
      have hS : Ext w15 w15.drew := (Below.refl _ _).drew
      replace T5 := T5.drew
      replace T6 := T6.drew
      replace T8 := T8.drew
      replace hB := hB.drew
      refine wp_region_mix (fun W => Below w15.heap.size w15 W) [(0, true), (2, true), (5, true), (1, false), (3, false), (4, true), (6, true), (7, true), (8, true), (9, true), (11, true), (13, true), (10, false), (12, false), (14, true), (15, true), (16, true), (17, true), (18, true), (19, false), (20, true), (21, true), (22, true), (23, true), (24, false), (25, true), (26, true), (27, true)] (by kernel_rfl) (by kernel_rfl) (by kernel_rfl) (by kernel_rfl) (fun _ _ d _ _ h => by cases d <;> exact h) ?_ ?_
      · exact hS
      iterate 3
        apply mix_q rfl rfl
        · intro W hW
          have hcW := (bcell hW).1
          go_simp
          try exact rfl
        simp only [Act.put, List.setIfInBounds_toArray, List.set_cons_zero, List.set_cons_succ]
      refine mix_w rfl rfl (fun K hK => ?_)
      go_simp
      refine (count_any A6 m6 c6 (withS a i) _ (r6'.out.ext T6) e6.out hl6 (withS_fit hf i)).mono ?_
      rintro e w16 ⟨rfl, hE⟩
      refine hK _ _ ?_ ?_
      · exact hS.trans (hE.mono hS.size)
      clear hK K
      try simp only [Act.put, List.setIfInBounds_toArray, List.set_cons_zero, List.set_cons_succ]
      replace hS := hS.trans (hE.mono hS.size)
      replace hB := hB.trans (hE.mono hB.size)
      replace T5 := T5.trans (hE.mono T5.size)
      replace T6 := T6.trans (hE.mono T6.size)
      replace T8 := T8.trans (hE.mono T8.size)
      clear hE
      rw [← hNM.out]
      refine mix_w rfl rfl (fun K hK => ?_)
      go_simp
      refine (count_any A5 n5 c5 a _ (r5'.out.ext T5) e5.out (by omega) hf).mono ?_
      rintro e w17 ⟨rfl, hE⟩
      refine hK _ _ ?_ ?_
      · exact hS.trans (hE.mono hS.size)
      clear hK K
      try simp only [Act.put, List.setIfInBounds_toArray, List.set_cons_zero, List.set_cons_succ]
      replace hS := hS.trans (hE.mono hS.size)
      replace hB := hB.trans (hE.mono hB.size)
      replace T5 := T5.trans (hE.mono T5.size)
      replace T6 := T6.trans (hE.mono T6.size)
      replace T8 := T8.trans (hE.mono T8.size)
      clear hE
      rw [← hNB.out]
      iterate 4
        apply mix_q rfl rfl
        · intro W hW
          have hcW := (bcell hW).1
          go_simp
          try exact rfl
        simp only [Act.put, List.setIfInBounds_toArray, List.set_cons_zero, List.set_cons_succ]
      iterate 3
        apply mix_on rfl (wanted_is rfl rfl rfl rfl rfl)
        · intro W hW
          have hcW := (bcell hW).1
          go_simp
          try exact rfl
        simp only [Act.put, List.setIfInBounds_toArray, List.set_cons_zero, List.set_cons_succ]
      refine mix_won rfl (wanted_is rfl rfl rfl rfl rfl) (fun K hK => ?_)
      go_simp
      refine (count_any A8 m8 c8 (withoutS a i) _ (r8'.out.ext T8) e8.out hl8 (withoutS_fit hf i)).mono ?_
      rintro e w18 ⟨rfl, hE⟩
      refine hK _ _ ?_ ?_
      · exact hS.trans (hE.mono hS.size)
      clear hK K
      try simp only [Act.put, List.setIfInBounds_toArray, List.set_cons_zero, List.set_cons_succ]
      replace hS := hS.trans (hE.mono hS.size)
      replace hB := hB.trans (hE.mono hB.size)
      replace T5 := T5.trans (hE.mono T5.size)
      replace T6 := T6.trans (hE.mono T6.size)
      replace T8 := T8.trans (hE.mono T8.size)
      clear hE
      rw [← hNL.out]
      refine mix_won rfl (wanted_is rfl rfl rfl rfl rfl) (fun K hK => ?_)
      go_simp
      refine (count_any A5 n5 c5 a _ (r5'.out.ext T5) e5.out (by omega) hf).mono ?_
      rintro e w19 ⟨rfl, hE⟩
      refine hK _ _ ?_ ?_
      · exact hS.trans (hE.mono hS.size)
      clear hK K
      try simp only [Act.put, List.setIfInBounds_toArray, List.set_cons_zero, List.set_cons_succ]
      replace hS := hS.trans (hE.mono hS.size)
      replace hB := hB.trans (hE.mono hB.size)
      replace T5 := T5.trans (hE.mono T5.size)
      replace T6 := T6.trans (hE.mono T6.size)
      replace T8 := T8.trans (hE.mono T8.size)
      clear hE
      rw [← hNB.out]
      iterate 2
        apply mix_on rfl (wanted_is rfl rfl rfl rfl rfl)
        · intro W hW
          have hcW := (bcell hW).1
          go_simp
          try exact rfl
        simp only [Act.put, List.setIfInBounds_toArray, List.set_cons_zero, List.set_cons_succ]
      iterate 2
        apply mix_q rfl rfl
        · intro W hW
          have hcW := (bcell hW).1
          go_simp
          try exact rfl
        simp only [Act.put, List.setIfInBounds_toArray, List.set_cons_zero, List.set_cons_succ]
      iterate 1
        apply mix_on rfl (wanted_is rfl rfl rfl rfl rfl)
        · intro W hW
          have hcW := (bcell hW).1
          go_simp
          try exact rfl
        simp only [Act.put, List.setIfInBounds_toArray, List.set_cons_zero, List.set_cons_succ]
      refine mix_won rfl (wanted_is rfl rfl rfl rfl rfl) (fun K hK => ?_)
      go_simp
      refine (check_any A6 m6 c6 (withS a i) _ (r6'.out.ext T6) e6.out (by omega) (withS_fit hf i)).mono ?_
      rintro e w20 ⟨rfl, hE⟩
      refine hK _ _ ?_ ?_
      · exact hS.trans (hE.mono hS.size)
      clear hK K
      try simp only [Act.put, List.setIfInBounds_toArray, List.set_cons_zero, List.set_cons_succ]
      replace hS := hS.trans (hE.mono hS.size)
      replace hB := hB.trans (hE.mono hB.size)
      replace T5 := T5.trans (hE.mono T5.size)
      replace T6 := T6.trans (hE.mono T6.size)
      replace T8 := T8.trans (hE.mono T8.size)
      clear hE
      rw [g1.out]
      iterate 1
        apply mix_on rfl (wanted_is rfl rfl rfl rfl rfl)
        · intro W hW
          have hcW := (bcell hW).1
          go_simp
          try exact rfl
        simp only [Act.put, List.setIfInBounds_toArray, List.set_cons_zero, List.set_cons_succ]
      iterate 2
        apply mix_q rfl rfl
        · intro W hW
          have hcW := (bcell hW).1
          go_simp
          try exact rfl
        simp only [Act.put, List.setIfInBounds_toArray, List.set_cons_zero, List.set_cons_succ]
      iterate 1
        apply mix_on rfl (wanted_is rfl rfl rfl rfl rfl)
        · intro W hW
          have hcW := (bcell hW).1
          go_simp
          try exact rfl
        simp only [Act.put, List.setIfInBounds_toArray, List.set_cons_zero, List.set_cons_succ]
      refine mix_won rfl (wanted_is rfl rfl rfl rfl rfl) (fun K hK => ?_)
      go_simp
      refine (check_any A8 m8 c8 (withoutS a i) _ (r8'.out.ext T8) e8.out (by omega) (withoutS_fit hf i)).mono ?_
      rintro e w21 ⟨rfl, hE⟩
      refine hK _ _ ?_ ?_
      · exact hS.trans (hE.mono hS.size)
      clear hK K
      try simp only [Act.put, List.setIfInBounds_toArray, List.set_cons_zero, List.set_cons_succ]
      replace hS := hS.trans (hE.mono hS.size)
      replace hB := hB.trans (hE.mono hB.size)
      replace T5 := T5.trans (hE.mono T5.size)
      replace T6 := T6.trans (hE.mono T6.size)
      replace T8 := T8.trans (hE.mono T8.size)
      clear hE
      rw [g2.out]
      iterate 1
        apply mix_on rfl (wanted_is rfl rfl rfl rfl rfl)
        · intro W hW
          have hcW := (bcell hW).1
          go_simp
          try exact rfl
        simp only [Act.put, List.setIfInBounds_toArray, List.set_cons_zero, List.set_cons_succ]
      iterate 2
        apply mix_q rfl rfl
        · intro W hW
          have hcW := (bcell hW).1
          go_simp
          try exact rfl
        simp only [Act.put, List.setIfInBounds_toArray, List.set_cons_zero, List.set_cons_succ]
      refine mix_nil ?_
      go_wp2
      go_ret
      exact ⟨rfl, hB⟩
end Go.Proofs.YtkiklbngfocljaaDoor
