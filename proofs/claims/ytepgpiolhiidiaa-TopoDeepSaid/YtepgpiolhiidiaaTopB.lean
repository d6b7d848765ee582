/- topo.heap: the least number taken out. -/
import Derived.Test.YtepgpiolhiidiaaTopA
namespace Go.Proofs.Ytepgpiolhiidiaa
open Go.RowKit Go.Shelf
attribute [local go_sem] Oper.semAt_some
set_option maxRecDepth 100000 in
set_option maxHeartbeats 4000000 in
theorem take_any (hB : Nat) (v : Value) (H : List Int) (base : Nat) (w : World) (hb : Box w hB 84 v) (ho : Own intE 3 base w v H) (hl : H.length ≤ 1000001) (hh : Heap H) (hp : 0 < H.length) :
    Calls Try.prog 56 #[.pointer (some ⟨hB, 0, none⟩)] w fun e w' => e = .returned (.int .i64 (gi H 0)) ∧ ∃ v' H', Box w' hB 84 v' ∧ Own intE 3 base w' v' H' ∧ Heap H' ∧ (∀ x, H'.count x + (if gi H 0 = x then 1 else 0) = H.count x) ∧
      Stir (hB :: v.ownBlock.toList) w w' ∧ (∀ k, v'.ownBlock = some k → v.ownBlock = some k) := by
  obtain ⟨A0, c, rfl, -, hcc, -⟩ := ho.rd
  obtain ⟨N, hN⟩ : ∃ N, H.length = N + 1 := ⟨H.length - 1, by omega⟩
  have hNl : N ≤ 1000000 := by omega
  have e7 : N ≤ c := by omega
  clear hcc
  rw [hN] at hb ho ⊢
  have htk := hide (take_same hp)
  have hdn := hide (heap_take hh hp)
  rw [hN, Nat.add_sub_cancel] at htk hdn
  obtain ⟨y, hy⟩ : ∃ y, y = gi H N := ⟨_, rfl⟩
  obtain ⟨x0, hx0⟩ : ∃ y, y = gi H 0 := ⟨_, rfl⟩
  rw [← hy] at htk hdn
  obtain ⟨g, rfl, hgb, hgs, d1, d2, f1, f2, -, -, -⟩ := ho.swp2 (i := 0) (j := N) (by omega) (by omega)
  rw [← hx0] at d1 htk ⊢
  rw [← hy] at d2
  obtain ⟨g', u, hg', -, -, -, -, hS, -, -⟩ := ho.setInt (i := 0) (by omega) y
  injection hg' with hg'
  injection hg' with hg'
  subst hg'
  obtain ⟨H0, hH0⟩ : ∃ q, q = (H.set 0 y).take N := ⟨_, rfl⟩
  have hS0 := hS.take (k := N) (by omega)
  rw [← hH0] at hS0 htk hdn
  have hl0 : H0.length = N := by rw [hH0, List.length_take, List.length_set]; omega
  generalize hOO : hB :: (Value.slice (some ⟨g, 0, none⟩) (N + 1) c).ownBlock.toList = O
  have hgO : Hid (g ∈ O) := hide (by rw [← hOO]; simp [Value.ownBlock])
  have hBO : Hid (hB ∈ O) := hide (by rw [← hOO]; simp)
  have hfr : Hid (∀ k, (Value.slice (some ⟨g, 0, none⟩) N c).ownBlock = some k → (Value.slice (some ⟨g, 0, none⟩) (N + 1) c).ownBlock = some k) := hide (fun k hk => hk)
  replace hOO := hide hOO
  have hne : hB ≠ g := fun e => (ho.ne_box hb (by decide)) (by rw [e]; rfl)
  have hb1 := hb.far (p := ⟨g, 0, none⟩) hne (.int .i64 y)
  have hb2 := hide (hb1.set (.slice (some ⟨g, 0, none⟩) N c))
  have ho2 := hide (hS0.set hb1 (by decide) (.slice (some ⟨g, 0, none⟩) N c))
  have hS2 : Hid (Stir O w ((w.setCell ⟨g, 0, none⟩ (.int .i64 y)).setCell ⟨hB, 0, none⟩ (.slice (some ⟨g, 0, none⟩) N c))) := hide ((Stir.setCell (p := ⟨g, 0, none⟩) hgO.out w _).trans1 (Stir.setCell (p := ⟨hB, 0, none⟩) hBO.out _ _))
  have hc := hb.cell
  have hc1 := hb1.cell
  have hf1 := hb1.free
  have hs := hb.lt
  have e1 : IntKind.i64.wrap (((N + 1 : Nat) : Int) - 1) = (N : Int) := by rw [IntWalk.i64_in _ (by omega)]; omega
  have e2 : (N : Int) < ((N + 1 : Nat) : Int) := by omega
  have e3 : 0 < N + 1 := by omega
  have e6 : (0 : Int) < ((N + 1 : Nat) : Int) := by omega
  have e4 : (0 : Int) ≤ (N : Int) := by omega
  have e5 : N ≤ N + 1 := by omega
  replace hN := hide hN
  replace hy := hide hy
  replace hx0 := hide hx0
  replace hH0 := hide hH0
  replace hl0 := hide hl0
  clear hb1 hS0 hS hb ho
  obtain ⟨N1, hN1⟩ : ∃ q, q = N + 1 := ⟨_, rfl⟩
  rw [← hN1] at e1 e2 e3 e5 e6 hOO hfr hc hc1 ⊢
  replace hN1 := hide hN1
  go_enter Try.func56, Try.ntmps56
  go_wp2
  go_step3
  go_upto_region 1 with fail
  refine wp_region_reads [(0, true), (1, true), (2, true), (3, true), (4, true), (5, true), (6, true), (7, true), (8, true), (9, true), (10, true), (11, true), (12, true), (13, true)] (by kernel_rfl) (by kernel_rfl) (by kernel_rfl) (by kernel_rfl) (fun _ _ d _ _ h => by cases d <;> exact h) ?_
  iterate 14
    apply mix_q rfl rfl
    · intro W hW
      subst hW
      go_simp
      try exact rfl
    simp only [Act.put, List.setIfInBounds_toArray, List.set_cons_zero, List.set_cons_succ]
  refine mix_nil ?_
  obtain ⟨wl, hwl⟩ : ∃ z, z = w.drew := ⟨_, rfl⟩
  rw [← hwl]
  have hc' : wl.cell? ⟨hB, 0, none⟩ = some (.slice (some ⟨g, 0, none⟩) N1 c) := by rw [hwl]; exact hc
  have d1' : wl.cell? ⟨g, 0, none⟩ = some (.int .i64 x0) := by rw [hwl]; exact d1
  have d2' : wl.cell? ⟨g, N, none⟩ = some (.int .i64 y) := by rw [hwl]; exact d2
  have f1' : wl.frozen? ⟨g, 0, none⟩ = false := by rw [hwl]; exact f1
  have hc1' : (wl.setCell ⟨g, 0, none⟩ (.int .i64 y)).cell? ⟨hB, 0, none⟩ = some (.slice (some ⟨g, 0, none⟩) N1 c) := by rw [hwl]; exact hc1
  have hf1' : (wl.setCell ⟨g, 0, none⟩ (.int .i64 y)).frozen? ⟨hB, 0, none⟩ = false := by rw [hwl]; exact hf1
  have hgs' : g < wl.heap.size := by rw [hwl]; exact hgs
  have hs' : hB < wl.heap.size := by rw [hwl]; exact hs
  replace hb2 : Hid (Box ((wl.setCell ⟨g, 0, none⟩ (.int .i64 y)).setCell ⟨hB, 0, none⟩ (.slice (some ⟨g, 0, none⟩) N c)) hB 84 (.slice (some ⟨g, 0, none⟩) N c)) := hide (by rw [hwl]; exact hb2.out)
  replace ho2 : Hid (Own intE 3 base ((wl.setCell ⟨g, 0, none⟩ (.int .i64 y)).setCell ⟨hB, 0, none⟩ (.slice (some ⟨g, 0, none⟩) N c)) (.slice (some ⟨g, 0, none⟩) N c) H0) := hide (by rw [hwl]; exact ho2.out)
  replace hS2 : Hid (Stir O w ((wl.setCell ⟨g, 0, none⟩ (.int .i64 y)).setCell ⟨hB, 0, none⟩ (.slice (some ⟨g, 0, none⟩) N c))) := hide (by rw [hwl]; exact ((Stir.drew1 O w).trans1 (Stir.setCell (p := ⟨g, 0, none⟩) hgO.out _ _)).trans1 (Stir.setCell (p := ⟨hB, 0, none⟩) hBO.out _ _))
  clear hwl hc d1 d2 f1 f2 hc1 hf1 hgs hs
  go_upto_region 2 with fail
  refine wp_only ?_
  refine wp_region_mixL (fun W => W = wl.drew) [12] [] [(0, true), (1, true), (2, true), (3, true), (4, true), (5, true), (6, true), (7, true), (8, true), (9, true), (10, true), (11, true), (12, false)] (by kernel_rfl) (by kernel_rfl) (by kernel_rfl) (by kernel_rfl) (by kernel_rfl) (by kernel_rfl) (fun _ _ d _ _ h => by cases h.1) rfl ?_
  iterate 12
    apply mixL_q rfl rfl rfl
    · intro W hW
      subst hW
      go_simp
      try exact rfl
    simp only [Act.put, List.setIfInBounds_toArray, List.set_cons_zero, List.set_cons_succ]
  iterate 1
    refine mixL_w rfl rfl (fun K hK => ?_)
    go_simp
    refine hK _ _ (fun h => absurd (by decide) h) ?_
    clear hK K
    try simp only [Act.put, List.setIfInBounds_toArray, List.set_cons_zero, List.set_cons_succ]
  refine mixL_nil ⟨rfl, ?_⟩
  go_wp2
  go_step3
  obtain ⟨w3, hw3⟩ : ∃ z, z = ((wl.setCell ⟨g, 0, none⟩ (.int .i64 y)).setCell ⟨hB, 0, none⟩ (.slice (some ⟨g, 0, none⟩) N c)).drew := ⟨_, rfl⟩
  rw [← hw3]
  have hb3 : Hid (Box w3 hB 84 (.slice (some ⟨g, 0, none⟩) N c)) := hide (by rw [hw3]; exact hb2.out)
  have ho3 : Hid (Own intE 3 base w3 (.slice (some ⟨g, 0, none⟩) N c) H0) := hide (by rw [hw3]; exact ho2.out)
  have hS3 : Hid (Stir O w w3) := hide (by rw [hw3]; exact hS2.out)
  clear hw3 hb2 ho2 hS2 hc' d1' d2' f1' hc1' hf1' hgs' hs' e1 e2 e3 e5 e6
  go_wp2
  go_loopw [5, 6] (fun p q wr => ∃ (i : Nat) (G : List Int), p = .int .i64 i ∧ (i = 0 ∨ i < N) ∧ Hid (G.length = N ∧ HeapD i G ∧ Same G H0) ∧ Hid (Own intE 3 base wr (.slice (some ⟨g, 0, none⟩) N c) G) ∧ Hid (Box wr hB 84 (.slice (some ⟨g, 0, none⟩) N c)) ∧ Hid (Stir O w wr)) (fun p _ _ => N - (intOf p).toNat)
  case atStart => exact ⟨0, H0, rfl, .inl rfl, hide ⟨hl0.out, hdn.out, Same.refl _⟩, ho3, hb3, hS3⟩
  case round =>
    clear ho3 hb3 hS3
    obtain ⟨i, G, rfl, hi, hG, ho3, hb3, hS3⟩ := hrel
    have hc3 := hb3.out.cell
    have hs3 := hb3.out.lt
    obtain ⟨k, hk⟩ : ∃ k : Nat, k = 2 * i + 1 := ⟨_, rfl⟩
    have hi1 : i ≤ 1000000 := by omega
    have u1 : IntKind.i64.wrap (2 * (i : Int)) = 2 * (i : Int) := IntWalk.i64_in _ (by omega)
    have u2 : IntKind.i64.wrap (2 * (i : Int) + 1) = (k : Int) := by rw [IntWalk.i64_in _ (by omega)]; omega
    have hkb : k ≤ 2000001 := by omega
    replace hk := hide hk
    by_cases hk1 : k + 1 < N
    · obtain ⟨k1, hk1e⟩ : ∃ q : Nat, q = k + 1 := ⟨_, rfl⟩
      have v1 : (k1 : Int) < (N : Int) := by omega
      have v2 : (k : Int) < (N : Int) := by omega
      have v3 : IntKind.i64.wrap ((k : Int) + 1) = (k1 : Int) := by rw [IntWalk.i64_in _ (by omega)]; omega
      have v4 : (0 : Int) ≤ (k1 : Int) := by omega
      have v5 : (0 : Int) ≤ (k : Int) := by omega
      obtain ⟨g2, hg2, -, hgs, b1, b2, -, -, -, -, -⟩ := ho3.out.swp2 (i := k) (j := k1) (by omega) (by omega)
      injection hg2 with hg2
      injection hg2 with hg2
      subst hg2
      obtain ⟨xk, hxk⟩ : ∃ x, x = gi G k := ⟨_, rfl⟩
      obtain ⟨yk, hyk⟩ : ∃ x, x = gi G k1 := ⟨_, rfl⟩
      rw [← hxk] at b1
      rw [← hyk] at b2
      replace hxk := hide hxk
      replace hyk := hide hyk
      replace hk1e := hide hk1e
      go_upto_region 6 with fail
      refine wp_region_reads [(0, true), (1, true), (2, true), (3, true), (4, true), (5, true), (6, true), (7, true), (8, true), (9, true), (10, true), (11, true), (12, true), (13, true), (14, true), (15, true), (16, true), (17, true), (18, true), (19, true), (20, true), (21, true)] (by kernel_rfl) (by kernel_rfl) (by kernel_rfl) (by kernel_rfl) (fun _ _ d _ _ h => by cases d <;> exact h) ?_
      iterate 5
        apply mix_q rfl rfl
        · intro W hW
          subst hW
          go_simp
          try exact rfl
        simp only [Act.put, List.setIfInBounds_toArray, List.set_cons_zero, List.set_cons_succ]
      iterate 16
        apply mix_on rfl (wanted_is rfl rfl rfl rfl rfl)
        · intro W hW
          subst hW
          go_simp
          try exact rfl
        simp only [Act.put, List.setIfInBounds_toArray, List.set_cons_zero, List.set_cons_succ]
      iterate 1
        apply mix_q rfl rfl
        · intro W hW
          subst hW
          go_simp
          try exact rfl
        simp only [Act.put, List.setIfInBounds_toArray, List.set_cons_zero, List.set_cons_succ]
      refine mix_nil ?_
      by_cases hyx : yk < xk
      · have hmin : Hid (∀ j, 0 < j → j < N → (j - 1) / 2 = i → gi G k1 ≤ gi G j) := hide (fun j h1 h2 h3 => by
          have h4 := hk.out
          have h5 := hk1e.out
          rcases (show j = k ∨ j = k1 by omega) with rfl | rfl
          · rw [← hxk.out, ← hyk.out]; omega
          · exact Int.le_refl _)
        clear b1 b2 hxk hyk
        have hm : Hid (k1 = 2 * i + 1 ∨ k1 = 2 * i + 2) := hide (by have := hk.out; have := hk1e.out; omega)
        have hmN : k1 < N := by have := hk1e.out; omega
        have hmL : (k1 : Int) < (N : Int) := by omega
        have hm0 : (0 : Int) ≤ (k1 : Int) := by omega
        have hmg : ¬ (N : Int) ≤ (k1 : Int) := by omega
        have hiN : i < N := by omega
        have hiL : (i : Int) < (N : Int) := by omega
        have hi0 : (0 : Int) ≤ (i : Int) := by omega
        obtain ⟨g2, hg2, hgb, hgs, c1, c2, f1, f2, ⟨u, c3⟩, f3, hS⟩ := ho3.out.swp2 (i := i) (j := k1) hiN hmN
        injection hg2 with hg2
        injection hg2 with hg2
        subst hg2
        obtain ⟨x, hx⟩ : ∃ x, x = gi G i := ⟨_, rfl⟩
        obtain ⟨y, hy⟩ : ∃ y, y = gi G k1 := ⟨_, rfl⟩
        rw [← hx] at c1 hS
        rw [← hy] at c2 c3 f3 hS
        replace hx := hide hx
        replace hy := hide hy
        replace hS := hide hS
        go_upto_region 8 with fail
        refine wp_region_reads [(0, true), (1, true), (2, true), (3, true), (4, true), (5, true), (6, true), (7, true), (8, true), (9, true), (10, true), (11, true), (12, true), (13, true), (14, true), (15, true), (16, true), (17, true), (18, true), (19, true)] (by kernel_rfl) (by kernel_rfl) (by kernel_rfl) (by kernel_rfl) (fun _ _ d _ _ h => by cases d <;> exact h) ?_
        iterate 4
          apply mix_q rfl rfl
          · intro W hW
            subst hW
            go_simp
            try exact rfl
          simp only [Act.put, List.setIfInBounds_toArray, List.set_cons_zero, List.set_cons_succ]
        iterate 15
          apply mix_on rfl (wanted_is rfl rfl rfl rfl rfl)
          · intro W hW
            subst hW
            go_simp
            try exact rfl
          simp only [Act.put, List.setIfInBounds_toArray, List.set_cons_zero, List.set_cons_succ]
        iterate 1
          apply mix_q rfl rfl
          · intro W hW
            subst hW
            go_simp
            try exact rfl
          simp only [Act.put, List.setIfInBounds_toArray, List.set_cons_zero, List.set_cons_succ]
        refine mix_nil ?_
        by_cases hxy : x ≤ y
        · go_wp2
          try rw [Exit.noGoto_ret]
          go_ret
          refine ⟨by first | rfl | rw [hx0.out], _, G, hb3.out, ho3.out, heapD_end hG.out.2.1 ?_, fun x => (by have h1 := hG.out.2.2 x; have h2 := htk.out x; omega), hS3.out, hfr.out⟩
          intro j hj hjl hjp
          exact Int.le_trans (by rw [← hx.out, ← hy.out]; exact hxy) (hmin.out j hj (by rw [← hG.out.1]; exact hjl) hjp)
        · obtain ⟨wl, hwl⟩ : ∃ z, z = wr.drew.drew := ⟨_, rfl⟩
          rw [← hwl]
          have hc3' : wl.cell? ⟨hB, 0, none⟩ = some (.slice (some ⟨g, 0, none⟩) N c) := by rw [hwl]; exact hc3
          have c1' : wl.cell? ⟨g, i, none⟩ = some (.int .i64 x) := by rw [hwl]; exact c1
          have c2' : wl.cell? ⟨g, k1, none⟩ = some (.int .i64 y) := by rw [hwl]; exact c2
          have f1' : wl.frozen? ⟨g, i, none⟩ = false := by rw [hwl]; exact f1
          have f2' : wl.frozen? ⟨g, k1, none⟩ = false := by rw [hwl]; exact f2
          have c3' : (wl.setCell ⟨g, i, none⟩ (.int .i64 y)).cell? ⟨g, k1, none⟩ = some u := by rw [hwl]; exact c3
          have f3' : (wl.setCell ⟨g, i, none⟩ (.int .i64 y)).frozen? ⟨g, k1, none⟩ = false := by rw [hwl]; exact f3
          have hgs' : g < wl.heap.size := by rw [hwl]; exact hgs
          have hs3' : hB < wl.heap.size := by rw [hwl]; exact hs3
          have hSw : Hid (Own intE 3 base ((wl.setCell ⟨g, i, none⟩ (.int .i64 y)).setCell ⟨g, k1, none⟩ (.int .i64 x)) (.slice (some ⟨g, 0, none⟩) N c) (swp G i k1)) := hide (by rw [hwl]; exact hS.out)
          have hne : hB ≠ g := fun e => (ho3.out.ne_box hb3.out (by decide)) (by rw [e]; rfl)
          have hbw : Hid (Box ((wl.setCell ⟨g, i, none⟩ (.int .i64 y)).setCell ⟨g, k1, none⟩ (.int .i64 x)) hB 84 (.slice (some ⟨g, 0, none⟩) N c)) := hide (by rw [hwl]; exact (hb3.out.drew.far (p := ⟨g, i, none⟩) hne _).far (p := ⟨g, k1, none⟩) hne _)
          have hSt : Hid (Stir O w ((wl.setCell ⟨g, i, none⟩ (.int .i64 y)).setCell ⟨g, k1, none⟩ (.int .i64 x))) := hide (by
            rw [hwl]
            exact (hS3.out.drew.drew.trans1 (Stir.setCell (p := ⟨g, i, none⟩) hgO.out _ _)).trans1 (Stir.setCell (p := ⟨g, k1, none⟩) hgO.out _ _))
          have hG2 : Hid ((swp G i k1).length = N ∧ HeapD k1 (swp G i k1) ∧ Same (swp G i k1) H0) := hide (by
            obtain ⟨g1, g2, g3⟩ := hG.out
            have h1 := hm.out
            refine ⟨by rw [swp_len, g1], heapD_step g2 (by omega) (by omega) (by omega) (by omega) (by rw [← hx.out, ← hy.out]; omega) (fun j hj hjl hjp => ?_), (swp_same (by omega) (by omega)).trans g3⟩
            exact hmin.out j hj (by rw [← g1]; exact hjl) hjp)
          have him : i < k1 := by have := hm.out; omega
          clear hwl hne hS hG ho3 hb3 hS3
          clear hc3 c1 c2 f1 f2 c3 f3 hgs hs3
          go_upto_region 9 with fail
          refine wp_only ?_
          refine wp_region_mixL (fun W => W = wl.drew) [25, 26, 27] [9] [(0, true), (1, true), (2, true), (3, true), (4, true), (5, true), (6, true), (7, true), (8, true), (9, true), (10, true), (11, true), (12, true), (13, true), (14, true), (15, true), (16, true), (17, true), (18, true), (19, true), (20, true), (21, true), (22, true), (23, true), (24, true), (25, false), (26, false), (27, false)] (by kernel_rfl) (by kernel_rfl) (by kernel_rfl) (by kernel_rfl) (by kernel_rfl) (by kernel_rfl) (fun _ _ d _ _ h => by cases h.1) rfl ?_
          iterate 9
            apply mixL_q rfl rfl rfl
            · intro W hW
              subst hW
              go_simp
              try exact rfl
            simp only [Act.put, List.setIfInBounds_toArray, List.set_cons_zero, List.set_cons_succ]
          iterate 1
            apply mixL_f rfl rfl
            · intro W
              go_simp
              try exact rfl
            simp only [Act.put, List.setIfInBounds_toArray, List.set_cons_zero, List.set_cons_succ]
          iterate 15
            apply mixL_q rfl rfl rfl
            · intro W hW
              subst hW
              go_simp
              try exact rfl
            simp only [Act.put, List.setIfInBounds_toArray, List.set_cons_zero, List.set_cons_succ]
          iterate 3
            refine mixL_w rfl rfl (fun K hK => ?_)
            go_simp
            refine hK _ _ (fun h => absurd (by decide) h) ?_
            clear hK K
            try simp only [Act.put, List.setIfInBounds_toArray, List.set_cons_zero, List.set_cons_succ]
          refine mixL_nil ⟨rfl, ?_⟩
          go_wp2
          refine ⟨?_, ?_⟩
          · exact ⟨k1, _, rfl, .inr hmN, hG2, hSw, hbw, hSt⟩
          · simp [intOf]; omega
      · have hmin : Hid (∀ j, 0 < j → j < N → (j - 1) / 2 = i → gi G k ≤ gi G j) := hide (fun j h1 h2 h3 => by
          have h4 := hk.out
          have h5 := hk1e.out
          rcases (show j = k ∨ j = k1 by omega) with rfl | rfl
          · exact Int.le_refl _
          · rw [← hxk.out, ← hyk.out]; omega)
        clear b1 b2 hxk hyk
        have hm : Hid (k = 2 * i + 1 ∨ k = 2 * i + 2) := hide (by have := hk.out; omega)
        have hmN : k < N := by omega
        have hmL : (k : Int) < (N : Int) := by omega
        have hm0 : (0 : Int) ≤ (k : Int) := by omega
        have hmg : ¬ (N : Int) ≤ (k : Int) := by omega
        have hiN : i < N := by omega
        have hiL : (i : Int) < (N : Int) := by omega
        have hi0 : (0 : Int) ≤ (i : Int) := by omega
        obtain ⟨g2, hg2, hgb, hgs, c1, c2, f1, f2, ⟨u, c3⟩, f3, hS⟩ := ho3.out.swp2 (i := i) (j := k) hiN hmN
        injection hg2 with hg2
        injection hg2 with hg2
        subst hg2
        obtain ⟨x, hx⟩ : ∃ x, x = gi G i := ⟨_, rfl⟩
        obtain ⟨y, hy⟩ : ∃ y, y = gi G k := ⟨_, rfl⟩
        rw [← hx] at c1 hS
        rw [← hy] at c2 c3 f3 hS
        replace hx := hide hx
        replace hy := hide hy
        replace hS := hide hS
        go_upto_region 8 with fail
        refine wp_region_reads [(0, true), (1, true), (2, true), (3, true), (4, true), (5, true), (6, true), (7, true), (8, true), (9, true), (10, true), (11, true), (12, true), (13, true), (14, true), (15, true), (16, true), (17, true), (18, true), (19, true)] (by kernel_rfl) (by kernel_rfl) (by kernel_rfl) (by kernel_rfl) (fun _ _ d _ _ h => by cases d <;> exact h) ?_
        iterate 4
          apply mix_q rfl rfl
          · intro W hW
            subst hW
            go_simp
            try exact rfl
          simp only [Act.put, List.setIfInBounds_toArray, List.set_cons_zero, List.set_cons_succ]
        iterate 15
          apply mix_on rfl (wanted_is rfl rfl rfl rfl rfl)
          · intro W hW
            subst hW
            go_simp
            try exact rfl
          simp only [Act.put, List.setIfInBounds_toArray, List.set_cons_zero, List.set_cons_succ]
        iterate 1
          apply mix_q rfl rfl
          · intro W hW
            subst hW
            go_simp
            try exact rfl
          simp only [Act.put, List.setIfInBounds_toArray, List.set_cons_zero, List.set_cons_succ]
        refine mix_nil ?_
        by_cases hxy : x ≤ y
        · go_wp2
          try rw [Exit.noGoto_ret]
          go_ret
          refine ⟨by first | rfl | rw [hx0.out], _, G, hb3.out, ho3.out, heapD_end hG.out.2.1 ?_, fun x => (by have h1 := hG.out.2.2 x; have h2 := htk.out x; omega), hS3.out, hfr.out⟩
          intro j hj hjl hjp
          exact Int.le_trans (by rw [← hx.out, ← hy.out]; exact hxy) (hmin.out j hj (by rw [← hG.out.1]; exact hjl) hjp)
        · obtain ⟨wl, hwl⟩ : ∃ z, z = wr.drew.drew := ⟨_, rfl⟩
          rw [← hwl]
          have hc3' : wl.cell? ⟨hB, 0, none⟩ = some (.slice (some ⟨g, 0, none⟩) N c) := by rw [hwl]; exact hc3
          have c1' : wl.cell? ⟨g, i, none⟩ = some (.int .i64 x) := by rw [hwl]; exact c1
          have c2' : wl.cell? ⟨g, k, none⟩ = some (.int .i64 y) := by rw [hwl]; exact c2
          have f1' : wl.frozen? ⟨g, i, none⟩ = false := by rw [hwl]; exact f1
          have f2' : wl.frozen? ⟨g, k, none⟩ = false := by rw [hwl]; exact f2
          have c3' : (wl.setCell ⟨g, i, none⟩ (.int .i64 y)).cell? ⟨g, k, none⟩ = some u := by rw [hwl]; exact c3
          have f3' : (wl.setCell ⟨g, i, none⟩ (.int .i64 y)).frozen? ⟨g, k, none⟩ = false := by rw [hwl]; exact f3
          have hgs' : g < wl.heap.size := by rw [hwl]; exact hgs
          have hs3' : hB < wl.heap.size := by rw [hwl]; exact hs3
          have hSw : Hid (Own intE 3 base ((wl.setCell ⟨g, i, none⟩ (.int .i64 y)).setCell ⟨g, k, none⟩ (.int .i64 x)) (.slice (some ⟨g, 0, none⟩) N c) (swp G i k)) := hide (by rw [hwl]; exact hS.out)
          have hne : hB ≠ g := fun e => (ho3.out.ne_box hb3.out (by decide)) (by rw [e]; rfl)
          have hbw : Hid (Box ((wl.setCell ⟨g, i, none⟩ (.int .i64 y)).setCell ⟨g, k, none⟩ (.int .i64 x)) hB 84 (.slice (some ⟨g, 0, none⟩) N c)) := hide (by rw [hwl]; exact (hb3.out.drew.far (p := ⟨g, i, none⟩) hne _).far (p := ⟨g, k, none⟩) hne _)
          have hSt : Hid (Stir O w ((wl.setCell ⟨g, i, none⟩ (.int .i64 y)).setCell ⟨g, k, none⟩ (.int .i64 x))) := hide (by
            rw [hwl]
            exact (hS3.out.drew.drew.trans1 (Stir.setCell (p := ⟨g, i, none⟩) hgO.out _ _)).trans1 (Stir.setCell (p := ⟨g, k, none⟩) hgO.out _ _))
          have hG2 : Hid ((swp G i k).length = N ∧ HeapD k (swp G i k) ∧ Same (swp G i k) H0) := hide (by
            obtain ⟨g1, g2, g3⟩ := hG.out
            have h1 := hm.out
            refine ⟨by rw [swp_len, g1], heapD_step g2 (by omega) (by omega) (by omega) (by omega) (by rw [← hx.out, ← hy.out]; omega) (fun j hj hjl hjp => ?_), (swp_same (by omega) (by omega)).trans g3⟩
            exact hmin.out j hj (by rw [← g1]; exact hjl) hjp)
          have him : i < k := by have := hm.out; omega
          clear hwl hne hS hG ho3 hb3 hS3
          clear hc3 c1 c2 f1 f2 c3 f3 hgs hs3
          go_upto_region 9 with fail
          refine wp_only ?_
          refine wp_region_mixL (fun W => W = wl.drew) [25, 26, 27] [9] [(0, true), (1, true), (2, true), (3, true), (4, true), (5, true), (6, true), (7, true), (8, true), (9, true), (10, true), (11, true), (12, true), (13, true), (14, true), (15, true), (16, true), (17, true), (18, true), (19, true), (20, true), (21, true), (22, true), (23, true), (24, true), (25, false), (26, false), (27, false)] (by kernel_rfl) (by kernel_rfl) (by kernel_rfl) (by kernel_rfl) (by kernel_rfl) (by kernel_rfl) (fun _ _ d _ _ h => by cases h.1) rfl ?_
          iterate 9
            apply mixL_q rfl rfl rfl
            · intro W hW
              subst hW
              go_simp
              try exact rfl
            simp only [Act.put, List.setIfInBounds_toArray, List.set_cons_zero, List.set_cons_succ]
          iterate 1
            apply mixL_f rfl rfl
            · intro W
              go_simp
              try exact rfl
            simp only [Act.put, List.setIfInBounds_toArray, List.set_cons_zero, List.set_cons_succ]
          iterate 15
            apply mixL_q rfl rfl rfl
            · intro W hW
              subst hW
              go_simp
              try exact rfl
            simp only [Act.put, List.setIfInBounds_toArray, List.set_cons_zero, List.set_cons_succ]
          iterate 3
            refine mixL_w rfl rfl (fun K hK => ?_)
            go_simp
            refine hK _ _ (fun h => absurd (by decide) h) ?_
            clear hK K
            try simp only [Act.put, List.setIfInBounds_toArray, List.set_cons_zero, List.set_cons_succ]
          refine mixL_nil ⟨rfl, ?_⟩
          go_wp2
          refine ⟨?_, ?_⟩
          · exact ⟨k, _, rfl, .inr hmN, hG2, hSw, hbw, hSt⟩
          · simp [intOf]; omega
    · obtain ⟨k1, hk1e⟩ : ∃ q : Nat, q = k + 1 := ⟨_, rfl⟩
      have v1 : ¬ (k1 : Int) < (N : Int) := by omega
      have v3 : IntKind.i64.wrap ((k : Int) + 1) = (k1 : Int) := by rw [IntWalk.i64_in _ (by omega)]; omega
      replace hk1e := hide hk1e
      have hmin : Hid (∀ j, 0 < j → j < N → (j - 1) / 2 = i → gi G k ≤ gi G j) := hide (fun j h1 h2 h3 => by
        have h4 := hk.out
        obtain rfl : j = k := by omega
        exact Int.le_refl _)
      have hm : Hid (k = 2 * i + 1 ∨ k = 2 * i + 2) := hide (by have := hk.out; omega)
      go_upto_region 6 with fail
      refine wp_region_reads [(0, true), (1, true), (2, true), (3, true), (4, true), (5, true), (6, true), (7, true), (8, true), (9, true), (10, true), (11, true), (12, true), (13, true), (14, true), (15, true), (16, true), (17, true), (18, true), (19, true), (20, true), (21, true)] (by kernel_rfl) (by kernel_rfl) (by kernel_rfl) (by kernel_rfl) (fun _ _ d _ _ h => by cases d <;> exact h) ?_
      iterate 5
        apply mix_q rfl rfl
        · intro W hW
          subst hW
          go_simp
          try exact rfl
        simp only [Act.put, List.setIfInBounds_toArray, List.set_cons_zero, List.set_cons_succ]
      iterate 16
        refine mix_off rfl (wanted_is rfl rfl rfl rfl rfl) ?_
        simp only [Act.put, List.setIfInBounds_toArray, List.set_cons_zero, List.set_cons_succ]
      iterate 1
        apply mix_q rfl rfl
        · intro W hW
          subst hW
          go_simp
          try exact rfl
        simp only [Act.put, List.setIfInBounds_toArray, List.set_cons_zero, List.set_cons_succ]
      refine mix_nil ?_
      by_cases hmN : k < N
      · have hmL : (k : Int) < (N : Int) := by omega
        have hm0 : (0 : Int) ≤ (k : Int) := by omega
        have hmg : ¬ (N : Int) ≤ (k : Int) := by omega
        have hiN : i < N := by omega
        have hiL : (i : Int) < (N : Int) := by omega
        have hi0 : (0 : Int) ≤ (i : Int) := by omega
        obtain ⟨g2, hg2, hgb, hgs, c1, c2, f1, f2, ⟨u, c3⟩, f3, hS⟩ := ho3.out.swp2 (i := i) (j := k) hiN hmN
        injection hg2 with hg2
        injection hg2 with hg2
        subst hg2
        obtain ⟨x, hx⟩ : ∃ x, x = gi G i := ⟨_, rfl⟩
        obtain ⟨y, hy⟩ : ∃ y, y = gi G k := ⟨_, rfl⟩
        rw [← hx] at c1 hS
        rw [← hy] at c2 c3 f3 hS
        replace hx := hide hx
        replace hy := hide hy
        replace hS := hide hS
        go_upto_region 8 with fail
        refine wp_region_reads [(0, true), (1, true), (2, true), (3, true), (4, true), (5, true), (6, true), (7, true), (8, true), (9, true), (10, true), (11, true), (12, true), (13, true), (14, true), (15, true), (16, true), (17, true), (18, true), (19, true)] (by kernel_rfl) (by kernel_rfl) (by kernel_rfl) (by kernel_rfl) (fun _ _ d _ _ h => by cases d <;> exact h) ?_
        iterate 4
          apply mix_q rfl rfl
          · intro W hW
            subst hW
            go_simp
            try exact rfl
          simp only [Act.put, List.setIfInBounds_toArray, List.set_cons_zero, List.set_cons_succ]
        iterate 15
          apply mix_on rfl (wanted_is rfl rfl rfl rfl rfl)
          · intro W hW
            subst hW
            go_simp
            try exact rfl
          simp only [Act.put, List.setIfInBounds_toArray, List.set_cons_zero, List.set_cons_succ]
        iterate 1
          apply mix_q rfl rfl
          · intro W hW
            subst hW
            go_simp
            try exact rfl
          simp only [Act.put, List.setIfInBounds_toArray, List.set_cons_zero, List.set_cons_succ]
        refine mix_nil ?_
        by_cases hxy : x ≤ y
        · go_wp2
          try rw [Exit.noGoto_ret]
          go_ret
          refine ⟨by first | rfl | rw [hx0.out], _, G, hb3.out, ho3.out, heapD_end hG.out.2.1 ?_, fun x => (by have h1 := hG.out.2.2 x; have h2 := htk.out x; omega), hS3.out, hfr.out⟩
          intro j hj hjl hjp
          exact Int.le_trans (by rw [← hx.out, ← hy.out]; exact hxy) (hmin.out j hj (by rw [← hG.out.1]; exact hjl) hjp)
        · obtain ⟨wl, hwl⟩ : ∃ z, z = wr.drew.drew := ⟨_, rfl⟩
          rw [← hwl]
          have hc3' : wl.cell? ⟨hB, 0, none⟩ = some (.slice (some ⟨g, 0, none⟩) N c) := by rw [hwl]; exact hc3
          have c1' : wl.cell? ⟨g, i, none⟩ = some (.int .i64 x) := by rw [hwl]; exact c1
          have c2' : wl.cell? ⟨g, k, none⟩ = some (.int .i64 y) := by rw [hwl]; exact c2
          have f1' : wl.frozen? ⟨g, i, none⟩ = false := by rw [hwl]; exact f1
          have f2' : wl.frozen? ⟨g, k, none⟩ = false := by rw [hwl]; exact f2
          have c3' : (wl.setCell ⟨g, i, none⟩ (.int .i64 y)).cell? ⟨g, k, none⟩ = some u := by rw [hwl]; exact c3
          have f3' : (wl.setCell ⟨g, i, none⟩ (.int .i64 y)).frozen? ⟨g, k, none⟩ = false := by rw [hwl]; exact f3
          have hgs' : g < wl.heap.size := by rw [hwl]; exact hgs
          have hs3' : hB < wl.heap.size := by rw [hwl]; exact hs3
          have hSw : Hid (Own intE 3 base ((wl.setCell ⟨g, i, none⟩ (.int .i64 y)).setCell ⟨g, k, none⟩ (.int .i64 x)) (.slice (some ⟨g, 0, none⟩) N c) (swp G i k)) := hide (by rw [hwl]; exact hS.out)
          have hne : hB ≠ g := fun e => (ho3.out.ne_box hb3.out (by decide)) (by rw [e]; rfl)
          have hbw : Hid (Box ((wl.setCell ⟨g, i, none⟩ (.int .i64 y)).setCell ⟨g, k, none⟩ (.int .i64 x)) hB 84 (.slice (some ⟨g, 0, none⟩) N c)) := hide (by rw [hwl]; exact (hb3.out.drew.far (p := ⟨g, i, none⟩) hne _).far (p := ⟨g, k, none⟩) hne _)
          have hSt : Hid (Stir O w ((wl.setCell ⟨g, i, none⟩ (.int .i64 y)).setCell ⟨g, k, none⟩ (.int .i64 x))) := hide (by
            rw [hwl]
            exact (hS3.out.drew.drew.trans1 (Stir.setCell (p := ⟨g, i, none⟩) hgO.out _ _)).trans1 (Stir.setCell (p := ⟨g, k, none⟩) hgO.out _ _))
          have hG2 : Hid ((swp G i k).length = N ∧ HeapD k (swp G i k) ∧ Same (swp G i k) H0) := hide (by
            obtain ⟨g1, g2, g3⟩ := hG.out
            have h1 := hm.out
            refine ⟨by rw [swp_len, g1], heapD_step g2 (by omega) (by omega) (by omega) (by omega) (by rw [← hx.out, ← hy.out]; omega) (fun j hj hjl hjp => ?_), (swp_same (by omega) (by omega)).trans g3⟩
            exact hmin.out j hj (by rw [← g1]; exact hjl) hjp)
          have him : i < k := by have := hm.out; omega
          clear hwl hne hS hG ho3 hb3 hS3
          clear hc3 c1 c2 f1 f2 c3 f3 hgs hs3
          go_upto_region 9 with fail
          refine wp_only ?_
          refine wp_region_mixL (fun W => W = wl.drew) [25, 26, 27] [9] [(0, true), (1, true), (2, true), (3, true), (4, true), (5, true), (6, true), (7, true), (8, true), (9, true), (10, true), (11, true), (12, true), (13, true), (14, true), (15, true), (16, true), (17, true), (18, true), (19, true), (20, true), (21, true), (22, true), (23, true), (24, true), (25, false), (26, false), (27, false)] (by kernel_rfl) (by kernel_rfl) (by kernel_rfl) (by kernel_rfl) (by kernel_rfl) (by kernel_rfl) (fun _ _ d _ _ h => by cases h.1) rfl ?_
          iterate 9
            apply mixL_q rfl rfl rfl
            · intro W hW
              subst hW
              go_simp
              try exact rfl
            simp only [Act.put, List.setIfInBounds_toArray, List.set_cons_zero, List.set_cons_succ]
          iterate 1
            apply mixL_f rfl rfl
            · intro W
              go_simp
              try exact rfl
            simp only [Act.put, List.setIfInBounds_toArray, List.set_cons_zero, List.set_cons_succ]
          iterate 15
            apply mixL_q rfl rfl rfl
            · intro W hW
              subst hW
              go_simp
              try exact rfl
            simp only [Act.put, List.setIfInBounds_toArray, List.set_cons_zero, List.set_cons_succ]
          iterate 3
            refine mixL_w rfl rfl (fun K hK => ?_)
            go_simp
            refine hK _ _ (fun h => absurd (by decide) h) ?_
            clear hK K
            try simp only [Act.put, List.setIfInBounds_toArray, List.set_cons_zero, List.set_cons_succ]
          refine mixL_nil ⟨rfl, ?_⟩
          go_wp2
          refine ⟨?_, ?_⟩
          · exact ⟨k, _, rfl, .inr hmN, hG2, hSw, hbw, hSt⟩
          · simp [intOf]; omega
      · have hmg : (N : Int) ≤ (k : Int) := by omega
        go_upto_region 8 with fail
        refine wp_region_reads [(0, true), (1, true), (2, true), (3, true), (4, true), (5, true), (6, true), (7, true), (8, true), (9, true), (10, true), (11, true), (12, true), (13, true), (14, true), (15, true), (16, true), (17, true), (18, true), (19, true)] (by kernel_rfl) (by kernel_rfl) (by kernel_rfl) (by kernel_rfl) (fun _ _ d _ _ h => by cases d <;> exact h) ?_
        iterate 4
          apply mix_q rfl rfl
          · intro W hW
            subst hW
            go_simp
            try exact rfl
          simp only [Act.put, List.setIfInBounds_toArray, List.set_cons_zero, List.set_cons_succ]
        iterate 15
          refine mix_off rfl (wanted_is rfl rfl rfl rfl rfl) ?_
          simp only [Act.put, List.setIfInBounds_toArray, List.set_cons_zero, List.set_cons_succ]
        iterate 1
          apply mix_q rfl rfl
          · intro W hW
            subst hW
            go_simp
            try exact rfl
          simp only [Act.put, List.setIfInBounds_toArray, List.set_cons_zero, List.set_cons_succ]
        refine mix_nil ?_
        go_wp2
        try rw [Exit.noGoto_ret]
        go_ret
        refine ⟨by first | rfl | rw [hx0.out], _, G, hb3.out, ho3.out, heapD_end hG.out.2.1 ?_, fun x => (by have h1 := hG.out.2.2 x; have h2 := htk.out x; omega), hS3.out, hfr.out⟩
        intro j hj hjl hjp
        have h1 := hk.out
        have h3 := hG.out.1
        omega
end Go.Proofs.Ytepgpiolhiidiaa
