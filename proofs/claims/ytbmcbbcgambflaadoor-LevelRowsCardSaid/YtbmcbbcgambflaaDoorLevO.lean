/- The document's joins and meets: Of. -/
import Derived.Test.YtbmcbbcgambflaaDoorLevQ
namespace Go.Proofs.YtbmcbbcgambflaaDoor
open Go.RowKit

def dOf (g : Bool) : Int → Int → Int := if g then dMax else dMin
set_option maxRecDepth 100000 in
set_option maxHeartbeats 4000000 in
theorem refOf_any (g : Bool) (A1 A2 : Option Addr) (n1 c1 n2 c2 : Nat) (xs ys : List Int) (w : World) (h1 : Rd intE w.heap.size w A1 xs) (h2 : Rd intE w.heap.size w A2 ys) (hn1 : n1 = xs.length) (hn2 : n2 = ys.length) (hl1 : n1 ≤ 1000000) (hl2 : n1 = n2) :
    Calls Tryd.prog 29 #[.slice A1 n1 c1, .slice A2 n2 c2, .bool g] w fun e w' => ∃ v, e = .returned v ∧ Own intE 3 w.heap.size w' v (two (dOf g) xs ys) ∧ Ext w w' := by
  subst hl2
  have hlen : Hid (xs.length = ys.length) := hide (hn1.symm.trans hn2)
  replace h1 := hide h1
  replace h2 := hide h2
  replace hn1 := hide hn1
  replace hn2 := hide hn2
  go_enter Tryd.func29, Tryd.ntmps29
  go_wp2
  go_loopw [7, 11] (fun o i wr => ∃ k : Nat, k ≤ n1 ∧ i = .int .i64 k ∧ Hid (Own intE 3 w.heap.size wr o (two (dOf g) (xs.take k) (ys.take k))) ∧ Ext w wr) (fun _ i _ => n1 - (intOf i).toNat)
  case atStart => exact ⟨0, Nat.zero_le _, rfl, hide Own.nil_, Below.refl _ _⟩
  case round =>
    obtain ⟨k, hk, rfl, hO, hB⟩ := hrel
    obtain ⟨hcc, hff⟩ := bcell hB
    have hsz := hB.size
    by_cases hlt : k < n1
    · obtain ⟨b1, o1, rfl, ra1⟩ := h1.out.at_ (i := k) (by rw [← hn1.out]; exact hlt)
      obtain ⟨b2, o2, rfl, ra2⟩ := h2.out.at_ (i := k) (by rw [← hn2.out]; exact hlt)
      have hb1 := ra1.1
      have hb2 := ra2.1
      obtain ⟨p1, hp1⟩ := get_some (xs := xs) (i := k) (by rw [← hn1.out]; exact hlt)
      obtain ⟨p2, hp2⟩ := get_some (xs := ys) (i := k) (by rw [← hn2.out]; exact hlt)
      have hx1 := ra1.int hp1
      have hx2 := ra2.int hp2
      have htk := two_take (dOf g) xs ys k hp1 hp2
      have hll : (two (dOf g) (xs.take k) (ys.take k)).length ≤ 1000000 := by
        rw [two_length (dOf g) _ _ (by rw [List.length_take, List.length_take, hlen.out]), List.length_take]
        omega
      replace hp1 := hide hp1
      replace hp2 := hide hp2
      replace ra1 := hide ra1
      replace ra2 := hide ra2
      replace hll := hide hll
      by_cases hgt : p2 < p1
      · cases g with
        | true =>
          have hq : dOf true p1 p2 = p1 := by unfold dOf dMax dMin; simp; omega
          rw [hq] at htk
          replace htk := hide htk
          obtain ⟨A, c, rfl, -, -, -⟩ := hO.out.rd
          have hon := own_new (base := 0) (e := 3) intE wr.drew p1 wr.heap.size rfl (Nat.zero_le _)
          obtain ⟨A4, c4, hv1, hr4, -, -⟩ := hon.rd
          injection hv1 with hv2 hv3 hv4
          subst hv2
          clear hon hv3 hv4
          replace hr4 := hide hr4
          have hO1 := hide (hO.out.drew.alloc (.cells (intE.cs p1).toArray 3))
          go_wp2
          refine wp_region_reads [(0, true), (1, true), (2, true), (3, true), (4, true), (5, true), (6, true), (7, true), (8, true), (9, true), (10, true)] (by kernel_rfl) (by kernel_rfl) (by kernel_rfl) (by kernel_rfl) (fun _ _ d _ _ h => by cases d <;> exact h) ?_
          iterate 11
            apply mix_q rfl rfl
            · intro W hW
              subst hW
              go_simp
              try exact rfl
            simp only [Act.put, List.setIfInBounds_toArray, List.set_cons_zero, List.set_cons_succ]
          refine mix_nil ?_
          go_wp2_with (at_builtin; refine wpList_app tyInt rfl (.tmp 25) (.tmp 30) rfl rfl hO1.out rfl hr4.out rfl (by have := hll.out; simp; omega) (by simp; omega) ?_)
          intro v' w' hown' hg hne' hnil
          have hB' : Ext w w' := Own.below hO1.out (hB.drew.alloc hsz _) hg (by simp; omega)
          have hown2 : Hid (Own intE 3 w.heap.size w' v' (two (dOf true) (xs.take (k + 1)) (ys.take (k + 1)))) := hide (by rw [htk.out]; exact hown')
          clear hown' hne' hnil hg hO1 hr4
          go_wp2
          refine ⟨?_, ?_⟩
          · first
              | exact ⟨k + 1, by omega, by go_num, hown2, hB'⟩
              | ((repeat apply Exists.intro); exact ⟨⟨k + 1, by omega, by go_num, hown2, hB'⟩, rfl⟩)
          · first | (simp [intOf, lenV]; omega) | (simp [intOf]; omega) | (simp [intOf]; done)
        | false =>
          have hq : dOf false p1 p2 = p2 := by unfold dOf dMax dMin; simp; omega
          rw [hq] at htk
          replace htk := hide htk
          obtain ⟨A, c, rfl, -, -, -⟩ := hO.out.rd
          have hon := own_new (base := 0) (e := 3) intE wr.drew p2 wr.heap.size rfl (Nat.zero_le _)
          obtain ⟨A4, c4, hv1, hr4, -, -⟩ := hon.rd
          injection hv1 with hv2 hv3 hv4
          subst hv2
          clear hon hv3 hv4
          replace hr4 := hide hr4
          have hO1 := hide (hO.out.drew.alloc (.cells (intE.cs p2).toArray 3))
          go_wp2
          refine wp_region_reads [(0, true), (1, true), (2, true), (3, true), (4, true), (5, true), (6, true), (7, true), (8, true), (9, true), (10, true)] (by kernel_rfl) (by kernel_rfl) (by kernel_rfl) (by kernel_rfl) (fun _ _ d _ _ h => by cases d <;> exact h) ?_
          iterate 11
            apply mix_q rfl rfl
            · intro W hW
              subst hW
              go_simp
              try exact rfl
            simp only [Act.put, List.setIfInBounds_toArray, List.set_cons_zero, List.set_cons_succ]
          refine mix_nil ?_
          go_wp2_with (at_builtin; refine wpList_app tyInt rfl (.tmp 32) (.tmp 37) rfl rfl hO1.out rfl hr4.out rfl (by have := hll.out; simp; omega) (by simp; omega) ?_)
          intro v' w' hown' hg hne' hnil
          have hB' : Ext w w' := Own.below hO1.out (hB.drew.alloc hsz _) hg (by simp; omega)
          have hown2 : Hid (Own intE 3 w.heap.size w' v' (two (dOf false) (xs.take (k + 1)) (ys.take (k + 1)))) := hide (by rw [htk.out]; exact hown')
          clear hown' hne' hnil hg hO1 hr4
          go_wp2
          refine ⟨?_, ?_⟩
          · first
              | exact ⟨k + 1, by omega, by go_num, hown2, hB'⟩
              | ((repeat apply Exists.intro); exact ⟨⟨k + 1, by omega, by go_num, hown2, hB'⟩, rfl⟩)
          · first | (simp [intOf, lenV]; omega) | (simp [intOf]; omega) | (simp [intOf]; done)
      · have hgt' : p1 ≤ p2 := by omega
        have hd1 : decide (p2 < p1) = false := decide_eq_false hgt
        have hd2 : ((decide (p2 < p1)) == false) = true := by rw [hd1]; rfl
        cases g with
        | true =>
          have hq : dOf true p1 p2 = p2 := by unfold dOf dMax dMin; simp; omega
          rw [hq] at htk
          replace htk := hide htk
          obtain ⟨A, c, rfl, -, -, -⟩ := hO.out.rd
          have hon := own_new (base := 0) (e := 3) intE wr.drew p2 wr.heap.size rfl (Nat.zero_le _)
          obtain ⟨A4, c4, hv1, hr4, -, -⟩ := hon.rd
          injection hv1 with hv2 hv3 hv4
          subst hv2
          clear hon hv3 hv4
          replace hr4 := hide hr4
          have hO1 := hide (hO.out.drew.alloc (.cells (intE.cs p2).toArray 3))
          go_wp2
          refine wp_region_reads [(0, true), (1, true), (2, true), (3, true), (4, true), (5, true), (6, true), (7, true), (8, true), (9, true), (10, true)] (by kernel_rfl) (by kernel_rfl) (by kernel_rfl) (by kernel_rfl) (fun _ _ d _ _ h => by cases d <;> exact h) ?_
          iterate 11
            apply mix_q rfl rfl
            · intro W hW
              subst hW
              go_simp
              try exact rfl
            simp only [Act.put, List.setIfInBounds_toArray, List.set_cons_zero, List.set_cons_succ]
          refine mix_nil ?_
          go_wp2_with (at_builtin; refine wpList_app tyInt rfl (.tmp 32) (.tmp 37) rfl rfl hO1.out rfl hr4.out rfl (by have := hll.out; simp; omega) (by simp; omega) ?_)
          intro v' w' hown' hg hne' hnil
          have hB' : Ext w w' := Own.below hO1.out (hB.drew.alloc hsz _) hg (by simp; omega)
          have hown2 : Hid (Own intE 3 w.heap.size w' v' (two (dOf true) (xs.take (k + 1)) (ys.take (k + 1)))) := hide (by rw [htk.out]; exact hown')
          clear hown' hne' hnil hg hO1 hr4
          go_wp2
          refine ⟨?_, ?_⟩
          · first
              | exact ⟨k + 1, by omega, by go_num, hown2, hB'⟩
              | ((repeat apply Exists.intro); exact ⟨⟨k + 1, by omega, by go_num, hown2, hB'⟩, rfl⟩)
          · first | (simp [intOf, lenV]; omega) | (simp [intOf]; omega) | (simp [intOf]; done)
        | false =>
          have hq : dOf false p1 p2 = p1 := by unfold dOf dMax dMin; simp; omega
          rw [hq] at htk
          replace htk := hide htk
          obtain ⟨A, c, rfl, -, -, -⟩ := hO.out.rd
          have hon := own_new (base := 0) (e := 3) intE wr.drew p1 wr.heap.size rfl (Nat.zero_le _)
          obtain ⟨A4, c4, hv1, hr4, -, -⟩ := hon.rd
          injection hv1 with hv2 hv3 hv4
          subst hv2
          clear hon hv3 hv4
          replace hr4 := hide hr4
          have hO1 := hide (hO.out.drew.alloc (.cells (intE.cs p1).toArray 3))
          go_wp2
          refine wp_region_reads [(0, true), (1, true), (2, true), (3, true), (4, true), (5, true), (6, true), (7, true), (8, true), (9, true), (10, true)] (by kernel_rfl) (by kernel_rfl) (by kernel_rfl) (by kernel_rfl) (fun _ _ d _ _ h => by cases d <;> exact h) ?_
          iterate 11
            apply mix_q rfl rfl
            · intro W hW
              subst hW
              go_simp
              try exact rfl
            simp only [Act.put, List.setIfInBounds_toArray, List.set_cons_zero, List.set_cons_succ]
          refine mix_nil ?_
          go_wp2_with (at_builtin; refine wpList_app tyInt rfl (.tmp 25) (.tmp 30) rfl rfl hO1.out rfl hr4.out rfl (by have := hll.out; simp; omega) (by simp; omega) ?_)
          intro v' w' hown' hg hne' hnil
          have hB' : Ext w w' := Own.below hO1.out (hB.drew.alloc hsz _) hg (by simp; omega)
          have hown2 : Hid (Own intE 3 w.heap.size w' v' (two (dOf false) (xs.take (k + 1)) (ys.take (k + 1)))) := hide (by rw [htk.out]; exact hown')
          clear hown' hne' hnil hg hO1 hr4
          go_wp2
          refine ⟨?_, ?_⟩
          · first
              | exact ⟨k + 1, by omega, by go_num, hown2, hB'⟩
              | ((repeat apply Exists.intro); exact ⟨⟨k + 1, by omega, by go_num, hown2, hB'⟩, rfl⟩)
          · first | (simp [intOf, lenV]; omega) | (simp [intOf]; omega) | (simp [intOf]; done)
    · obtain hkn : k = n1 := by omega
      have h1' : xs.take k = xs := by rw [hkn, hn1.out, List.take_length]
      have h2' : ys.take k = ys := by rw [hkn, hn2.out, List.take_length]
      rw [h1', h2'] at hO
      replace h1' := hide h1'
      replace h2' := hide h2'
      obtain ⟨A, c, rfl, -, -, -⟩ := hO.out.rd
      subst hkn
      go_wp2
      go_ret
      exact ⟨_, rfl, hO.out, hB⟩
end Go.Proofs.YtbmcbbcgambflaaDoor
