/- The stage wakes. -/
import Derived.Test.YtoihankkldafoaaGraT
namespace Go.Proofs.Ytoihankkldafoaa
open Go.RowKit

set_option maxHeartbeats 1000000 in
theorem equalI_any (A1 A2 : Option Addr) (n1 c1 n2 c2 : Nat) (xs ys : List Int) (w : World) (h1 : Rd intE w.heap.size w A1 xs) (h2 : Rd intE w.heap.size w A2 ys) (hn1 : n1 = xs.length) (hn2 : n2 = ys.length) (hl1 : n1 ≤ 1000000) :
    Calls Try.prog 21 #[.slice A1 n1 c1, .slice A2 n2 c2] w fun e w' => e = .returned (.bool (decide (xs = ys))) ∧ Ext w w' := by
  by_cases hlen : n1 = n2
  · subst hlen
    have hlen2 : Hid (xs.length = ys.length) := hide (hn1.symm.trans hn2)
    replace h1 := hide h1
    replace h2 := hide h2
    replace hn1 := hide hn1
    replace hn2 := hide hn2
    go_enter Try.func21, Try.ntmps21
    go_wp2
    go_loopw [13] (fun i wr => ∃ k : Nat, k ≤ n1 ∧ i = .int .i64 k ∧ Hid (xs.take k = ys.take k) ∧ Ext w wr) (fun i _ => n1 - (intOf i).toNat)
    case atStart => exact ⟨0, Nat.zero_le _, rfl, hide rfl, Below.refl _ _⟩
    case round =>
      obtain ⟨k, hk, rfl, hsame, hB⟩ := hrel
      obtain ⟨hcc, hff⟩ := bcell hB
      have hsz := hB.size
      by_cases hlt : k < n1
      · obtain ⟨b1, o1, rfl, ra1⟩ := h1.out.at_ (i := k) (by rw [← hn1.out]; exact hlt)
        obtain ⟨b2, o2, rfl, ra2⟩ := h2.out.at_ (i := k) (by rw [← hn2.out]; exact hlt)
        have hb1 := ra1.1
        have hb2 := ra2.1
        obtain ⟨p1, hp1⟩ := get_some (xs := xs) (i := k) (by rw [← hn1.out]; exact hlt)
        obtain ⟨p2, hp2⟩ := get_some (xs := ys) (i := k) (by rw [← hn2.out]; exact hlt)
        have hx1 := ra1.int hp1
        have hx2 := ra2.int hp2
        by_cases he : p1 = p2
        · skip
          have hsame2 : Hid (xs.take (k + 1) = ys.take (k + 1)) := hide (by rw [take_snoc hp1, take_snoc hp2, hsame.out, he])
          subst he
          replace hp1 := hide hp1
          replace hp2 := hide hp2
          replace ra1 := hide ra1
          replace ra2 := hide ra2
          go_wp2
          refine wp_region_reads [(0, true), (1, true), (2, true), (3, true), (4, true), (5, true), (6, true), (7, true), (8, true)] (by kernel_rfl) (by kernel_rfl) (by kernel_rfl) (by kernel_rfl) (fun _ _ d _ _ h => by cases d <;> exact h) ?_
          iterate 9
            apply mix_q rfl rfl
            · intro W hW
              subst hW
              go_simp
              try exact rfl
            simp only [Act.put, List.setIfInBounds_toArray, List.set_cons_zero, List.set_cons_succ]
          refine mix_nil ?_
          go_wp2
          refine ⟨?_, ?_⟩
          · first
              | exact ⟨k + 1, by omega, by go_num, hsame2, hB.drew⟩
              | ((repeat apply Exists.intro); exact ⟨⟨k + 1, by omega, by go_num, hsame2, hB.drew⟩, rfl⟩)
          · first | (simp [intOf, lenV]; omega) | (simp [intOf]; omega) | (simp [intOf]; done)
        · have hne : Hid (decide (xs = ys) = false) := hide (decide_eq_false (fun h => by subst h; rw [hp1] at hp2; injection hp2 with hp2; exact he hp2))
          have he' : ((p1 : Int) == (p2 : Int)) = false := by rw [beq_eq_false_iff_ne]; omega
          replace he := hide he
          replace hp1 := hide hp1
          replace hp2 := hide hp2
          replace ra1 := hide ra1
          replace ra2 := hide ra2
          go_wp2
          refine wp_region_reads [(0, true), (1, true), (2, true), (3, true), (4, true), (5, true), (6, true), (7, true), (8, true)] (by kernel_rfl) (by kernel_rfl) (by kernel_rfl) (by kernel_rfl) (fun _ _ d _ _ h => by cases d <;> exact h) ?_
          iterate 9
            apply mix_q rfl rfl
            · intro W hW
              subst hW
              go_simp
              try exact rfl
            simp only [Act.put, List.setIfInBounds_toArray, List.set_cons_zero, List.set_cons_succ]
          refine mix_nil ?_
          go_wp2
          go_ret
          exact ⟨by rw [hne.out]; rfl, hB.drew⟩
      · obtain hkn : k = n1 := by omega
        have hfin : Hid (decide (xs = ys) = true) := hide (decide_eq_true (by
          have h := hsame.out
          rw [hkn, hn1.out, List.take_length, hlen2.out, List.take_length] at h
          exact h))
        subst hkn
        go_wp2
        go_ret
        exact ⟨by rw [hfin.out]; rfl, hB⟩
  · have hne : Hid (decide (xs = ys) = false) := hide (decide_eq_false (fun h => hlen (by rw [hn1, hn2, h])))
    have hlen' : ((n1 : Int) == (n2 : Int)) = false := by rw [beq_eq_false_iff_ne]; omega
    replace hlen := hide hlen
    replace h1 := hide h1
    replace h2 := hide h2
    replace hn1 := hide hn1
    replace hn2 := hide hn2
    go_enter Try.func21, Try.ntmps21
    go_wp2
    go_ret
    exact ⟨by rw [hne.out]; rfl, Below.refl _ _⟩
theorem rdO {α : Type} {E : El α} {e : TypeId} {base : Nat} {w : World} {A : Option Addr} {n c : Nat} {xs : List α} (h : Own E e base w (.slice A n c) xs) : Rd E w.heap.size w A xs := by
  obtain ⟨A', c', heq, hr, -, -⟩ := h.rd
  injection heq with h1
  subst h1
  exact hr
theorem ofE_small : ofE smallL = [(0, 1, 0), (0, 1, 2), (1, 2, 1)] := by decide
theorem okOf_small : okOf 3 smallL = true := by decide
theorem right_small : rightG 3 [(0, 1, 0), (0, 1, 2), (1, 2, 1)] = true := by decide
theorem starts_small : startL 3 [(0, 1, 0), (0, 1, 2), (1, 2, 1)] = [0, 2, 3, 3] := by decide
theorem ask_small : askE 3 [(0, 1, 0), (0, 1, 2), (1, 2, 1)] [3] = 2 := by decide
set_option maxRecDepth 100000 in
set_option maxHeartbeats 4000000 in
theorem wakes_any (w : World) : Calls Try.prog 9 #[] w fun e w' => e = .returned (.bool true) ∧ Ext w w' := by
  go_enter Try.func9, Try.ntmps9
  go_wp2_with fail
  refine (small_any _).mono ?_
  rintro e w1 ⟨A8, rfl, hO8, hB⟩
  have r8 := hide (rdO hO8)
  clear hO8
  go_wp2_with fail
  refine (Of_any 3 A8 4 4 smallL _ r8.out rfl (by decide) (by decide)).mono ?_
  rintro e w2 ⟨v, rfl, hO, hE⟩
  obtain ⟨v1, v2, v3⟩ := of_yes okOf_small
  rw [v1, v2]
  rw [v3, ofE_small] at hO
  obtain ⟨A1, c1, rfl, r1, hc1, -⟩ := hO.rd
  replace hc1 : 3 ≤ c1 := hc1
  replace r1 := hide r1
  have hB2 := hB.trans (hE.mono hB.size)
  clear hO hE r8 v1 v2 v3 hB
  rw [show ([((0 : Int), (1 : Int), (0 : Int)), (0, 1, 2), (1, 2, 1)] : List (Int × Int × Int)).length = 3 from rfl]
  obtain ⟨gl, hgl⟩ : ∃ l : List (Int × Int × Int), l = [(0, 1, 0), (0, 1, 2), (1, 2, 1)] := ⟨_, rfl⟩
  rw [← hgl] at r1
  have hl3 : 3 = gl.length := by rw [hgl]; rfl
  have hst := starts_small
  have hri := right_small
  have hak := ask_small
  rw [← hgl] at hst hri hak
  have hx1 : gl[1]? = some (0, 1, 2) := by rw [hgl]; rfl
  have hch := chkG_yes hri
  replace hgl := hide hgl
  replace hl3 := hide hl3
  replace hst := hide hst
  replace hri := hide hri
  replace hak := hide hak
  replace hx1 := hide hx1
  replace hch := hide hch
  go_upto_region 2 with fail
  obtain ⟨w3, hw3⟩ : ∃ q, q = w2.alloc (.cells #[.int .i64 3, .slice A1 3 c1] 24) := ⟨_, rfl⟩
  rw [← hw3]
  have hE3 : Ext w2 w3 := by rw [hw3]; exact (Below.refl _ _).alloc (Nat.le_refl _) _
  have X1 : BoxG w3 w2.heap.size 3 A1 3 c1 := by rw [hw3]; exact BoxN.new _ _ _
  clear hw3
  replace hB2 := hB2.trans (hE3.mono hB2.size)
  replace r1 := hide (r1.out.ext hE3)
  obtain ⟨p1, hp1⟩ : ∃ q, q = w2.heap.size := ⟨_, rfl⟩
  rw [← hp1] at X1 ⊢
  clear hp1 hE3
  have T : Ext w3 w3 := Below.refl _ _
  have k10 := (X1.ext T).cell 0 (v := .int .i64 3) rfl
  have k11 := (X1.ext T).cell 1 rfl
  have s1 := (X1.ext T).lt
  go_wp2_with fail
  refine (starts_any 3 A1 3 c1 gl _ (r1.out.ext T) hl3.out (by decide)).mono ?_
  rintro e w4 ⟨v, rfl, hO, hE⟩
  rw [hch.out]
  rw [hst.out] at hO
  obtain ⟨A3, c3, rfl, r3, -, -⟩ := hO.rd
  rw [show ([0, 2, 3, 3] : List Int).length = 4 from rfl]
  replace r3 := hide r3
  replace T := T.trans (hE.mono T.size)
  clear hE hO k10 k11 s1
  have k10 := (X1.ext T).cell 0 (v := .int .i64 3) rfl
  have k11 := (X1.ext T).cell 1 rfl
  have s1 := (X1.ext T).lt
  go_wp2_with fail
  refine (out_any 3 3 A1 3 c1 gl _ (r1.out.ext T) hl3.out hc1 (by decide)).mono ?_
  rintro e w5 ⟨v, rfl, hO, hE⟩
  rw [hak.out]
  obtain ⟨A5, c5, rfl, -, -, -⟩ := hO.rd
  replace T := T.trans (hE.mono T.size)
  replace r3 := hide (r3.out.ext hE)
  clear hE hO k10 k11 s1
  obtain ⟨b1, o1, rfl, ra⟩ := (r1.out.ext T).at_ (i := 1) (by rw [← hl3.out]; decide)
  obtain ⟨hy1, hy2, hy3⟩ := ra.edge hx1.out
  have hb1 := ra.1
  have k10 := (X1.ext T).cell 0 (v := .int .i64 3) rfl
  have k11 := (X1.ext T).cell 1 rfl
  have s1 := (X1.ext T).lt
  replace ra := hide ra
  have T5 := hide T
  clear T
  go_upto_region 4 with fail
  have T : Ext w5 w5.drew := (Below.refl _ _).drew
  refine wp_region_mix (fun W => Below w5.heap.size w5 W) [(0, true), (1, true), (2, true), (3, true), (4, true), (5, true), (6, true), (7, true), (8, true), (9, true), (10, true), (11, true), (12, true), (13, true), (14, true), (15, true), (16, true), (17, true), (18, true), (19, true), (20, true), (21, false), (22, true), (23, false), (24, true), (25, true), (26, true), (27, true), (28, false), (29, false), (30, true), (31, true)] (by kernel_rfl) (by kernel_rfl) (by kernel_rfl) (by kernel_rfl) (fun _ _ d _ _ h => by cases d <;> exact h) ?_ ?_
  · exact T
  obtain ⟨wl, hwh⟩ : ∃ x, x = w5.drew := ⟨_, rfl⟩
  rw [← hwh] at T ⊢
  clear hwh
  iterate 3
    apply mix_q rfl rfl
    · intro W hW
      have hcW := (bcell hW).1
      go_simp
      try exact rfl
    simp only [Act.put, List.setIfInBounds_toArray, List.set_cons_zero, List.set_cons_succ]
  iterate 2
    apply mix_on rfl (wanted_is rfl rfl rfl rfl rfl)
    · intro W hW
      have hcW := (bcell hW).1
      go_simp
      try exact rfl
    simp only [Act.put, List.setIfInBounds_toArray, List.set_cons_zero, List.set_cons_succ]
  iterate 2
    apply mix_q rfl rfl
    · intro W hW
      have hcW := (bcell hW).1
      go_simp
      try exact rfl
    simp only [Act.put, List.setIfInBounds_toArray, List.set_cons_zero, List.set_cons_succ]
  iterate 2
    apply mix_on rfl (wanted_is rfl rfl rfl rfl rfl)
    · intro W hW
      have hcW := (bcell hW).1
      go_simp
      try exact rfl
    simp only [Act.put, List.setIfInBounds_toArray, List.set_cons_zero, List.set_cons_succ]
  iterate 2
    apply mix_q rfl rfl
    · intro W hW
      have hcW := (bcell hW).1
      go_simp
      try exact rfl
    simp only [Act.put, List.setIfInBounds_toArray, List.set_cons_zero, List.set_cons_succ]
  iterate 4
    apply mix_on rfl (wanted_is rfl rfl rfl rfl rfl)
    · intro W hW
      have hcW := (bcell hW).1
      go_simp
      try exact rfl
    simp only [Act.put, List.setIfInBounds_toArray, List.set_cons_zero, List.set_cons_succ]
  iterate 2
    apply mix_q rfl rfl
    · intro W hW
      have hcW := (bcell hW).1
      go_simp
      try exact rfl
    simp only [Act.put, List.setIfInBounds_toArray, List.set_cons_zero, List.set_cons_succ]
  iterate 4
    apply mix_on rfl (wanted_is rfl rfl rfl rfl rfl)
    · intro W hW
      have hcW := (bcell hW).1
      go_simp
      try exact rfl
    simp only [Act.put, List.setIfInBounds_toArray, List.set_cons_zero, List.set_cons_succ]
  refine mix_won rfl (wanted_is rfl rfl rfl rfl rfl) (fun K hK => ?_)
  go_simp
  refine (small_any _).mono ?_
  rintro e w6 ⟨A6, rfl, hO, hE⟩
  refine hK _ _ (T.trans (hE.mono T.size)) ?_
  clear hK K
  try simp only [Act.put, List.setIfInBounds_toArray, List.set_cons_zero, List.set_cons_succ]
  replace T := T.trans (hE.mono T.size)
  obtain ⟨b6, o6, rfl, ra6⟩ := (rdO hO).at_ (i := 0) (by decide)
  obtain ⟨hz1, hz2, hz3⟩ := ra6.edge0 (show smallL[0]? = some (0, 1, 2) from rfl)
  have hb6 := ra6.1
  replace ra6 := hide ra6
  clear hE hO
  iterate 1
    apply mix_on rfl (wanted_is rfl rfl rfl rfl rfl)
    · intro W hW
      have hcW := (bcell hW).1
      go_simp
      try exact rfl
    simp only [Act.put, List.setIfInBounds_toArray, List.set_cons_zero, List.set_cons_succ]
  refine mix_won rfl (wanted_is rfl rfl rfl rfl rfl) (fun K hK => ?_)
  go_simp
  refine hK _ _ T ?_
  clear hK K
  try simp only [Act.put, List.setIfInBounds_toArray, List.set_cons_zero, List.set_cons_succ]
  iterate 1
    apply mix_on rfl (wanted_is rfl rfl rfl rfl rfl)
    · intro W hW
      have hcW := (bcell hW).1
      go_simp
      try exact rfl
    simp only [Act.put, List.setIfInBounds_toArray, List.set_cons_zero, List.set_cons_succ]
  iterate 2
    apply mix_q rfl rfl
    · intro W hW
      have hcW := (bcell hW).1
      go_simp
      try exact rfl
    simp only [Act.put, List.setIfInBounds_toArray, List.set_cons_zero, List.set_cons_succ]
  iterate 1
    apply mix_on rfl (wanted_is rfl rfl rfl rfl rfl)
    · intro W hW
      have hcW := (bcell hW).1
      go_simp
      try exact rfl
    simp only [Act.put, List.setIfInBounds_toArray, List.set_cons_zero, List.set_cons_succ]
  clear hz1 hz2 hz3 hb6
  replace r3 := hide (r3.out.ext T)
  refine mix_won rfl (wanted_is rfl rfl rfl rfl rfl) (fun K hK => ?_)
  go_simp
  refine hK _ _ (T.alloc T.size _) ?_
  clear hK K
  try simp only [Act.put, List.setIfInBounds_toArray, List.set_cons_zero, List.set_cons_succ]
  obtain ⟨w7, hw7⟩ : ∃ q, q = w6.alloc (.cells #[.int .i64 0, .int .i64 2, .int .i64 3, .int .i64 3] 3) := ⟨_, rfl⟩
  rw [← hw7]
  have hE7 : Ext w6 w7 := by rw [hw7]; exact (Below.refl _ _).alloc (Nat.le_refl _) _
  have r7 : Rd intE w7.heap.size w7 (some ⟨w6.heap.size, 0, none⟩) [0, 2, 3, 3] := by rw [hw7]; exact rdO (own_made (base := 0) intE 3 w6 [0, 2, 3, 3] w6.heap.size rfl (Nat.zero_le _) (by decide))
  clear hw7
  replace T := T.trans (hE7.mono T.size)
  replace r3 := hide (r3.out.ext hE7)
  replace r7 := hide r7
  clear hE7
  refine mix_won rfl (wanted_is rfl rfl rfl rfl rfl) (fun K hK => ?_)
  go_simp
  refine (equalI_any _ _ 4 _ 4 _ [0, 2, 3, 3] [0, 2, 3, 3] _ r3.out r7.out rfl rfl (by decide)).mono ?_
  rintro e w8 ⟨rfl, hE⟩
  refine hK _ _ (T.trans (hE.mono T.size)) ?_
  clear hK K
  try simp only [Act.put, List.setIfInBounds_toArray, List.set_cons_zero, List.set_cons_succ]
  replace T := T.trans (hE.mono T.size)
  try rw [show decide (([0, 2, 3, 3] : List Int) = [0, 2, 3, 3]) = true from decide_eq_true rfl]
  clear hE
  iterate 2
    apply mix_q rfl rfl
    · intro W hW
      have hcW := (bcell hW).1
      go_simp
      try exact rfl
    simp only [Act.put, List.setIfInBounds_toArray, List.set_cons_zero, List.set_cons_succ]
  refine mix_nil ?_
  go_wp2
  go_ret
  exact ⟨rfl, hB2.trans ((T5.out.trans (T.mono T5.out.size)).mono hB2.size)⟩
end Go.Proofs.Ytoihankkldafoaa
