/- OrderSame: what is sorted has each as often as ahead; those of one key stand as they stood. -/
import Derived.Test.YtecfceabioajkaaLaw
import Derived.Test.YtecfceabioajkaaStore
import Derived.Test.YtecfceabioajkaaMapR
import Derived.Test.YtecfceabioajkaaTree
namespace Go.Proofs.Ytecfceabioajkaa
open Go.RowKit

set_option maxHeartbeats 4000000 in
theorem orderSame_any (A : Option Addr) (n c : Nat) (xs : List (Int × Int)) (w : World) (hn : n = xs.length) (h : Rd pairE w.heap.size w A xs) (hc : n ≤ c) :
    Calls Try.prog 3 #[.slice A n c] w fun e w' => e = .returned (.bool true) ∧ Ext w w' := by
  replace hn := hide hn
  replace h := hide h
  go_enter Try.func3, Try.ntmps3
  go_wp2_with fail
  refine (wakes_any _).mono ?_
  rintro e w1 ⟨rfl, hE1⟩
  go_wp2_with fail
  refine (few_any A n c xs _ hn.out (h.out.ext hE1) hc).mono ?_
  rintro e w2 ⟨v, rfl, o2, hE2⟩
  obtain ⟨A2, c2, rfl, rd2, hc2, -⟩ := o2.rd
  obtain ⟨as_, has⟩ : ∃ l, l = xs.take 60 := ⟨_, rfl⟩
  rw [← has] at o2 rd2 hc2 ⊢
  obtain ⟨m, hm⟩ : ∃ k, k = as_.length := ⟨_, rfl⟩
  rw [← hm] at o2 hc2 ⊢
  have hm60 : m ≤ 60 := by rw [hm, has, List.length_take]; omega
  clear has rd2 h hn
  replace hm := hide hm.symm
  replace o2 := hide o2
  have hs12 := hE2.size
  go_wp2
  go_loopw [19] (fun i wr => ∃ (k : Nat) (zs : List (Int × Int)), k ≤ m ∧ i = .int .i64 k ∧ Hid (zs.length = m) ∧ Hid (∀ (j : Nat) (x : Int × Int), j < k → zs[j]? = some x → x.2 = (j : Int)) ∧ Hid (Own pairE 26 w1.heap.size wr (.slice A2 m c2) zs) ∧ Below w1.heap.size w1 wr) (fun i _ => m - (intOf i).toNat)
  case atStart => exact ⟨0, as_, Nat.zero_le _, rfl, hm, hide (fun j x hj => by omega), o2, hE2⟩
  case round =>
    obtain ⟨k, zs, hk, rfl, hzl, hpl, oZ, hB⟩ := hrel
    by_cases hlt : k < m
    · obtain ⟨g, rfl, hg⟩ := oZ.out.place (by omega)
      obtain ⟨⟨p1, p2⟩, hx⟩ := get_some (xs := zs) (i := k) (by rw [hzl.out]; exact hlt)
      obtain ⟨hgs, hx1, hx2⟩ := oZ.out.pair hx
      have hfr := oZ.out.free (k * 2 + 1)
      have oZ' := oZ.out.put (k := k) (j := 1) (y := (p1, (k : Int))) (u := .int .i64 (k : Int)) hx rfl (by decide)
      have hB' : Below w1.heap.size w1 (wr.setCell ⟨g, k * 2 + 1, none⟩ (.int .i64 (k : Int))) := hB.setCell hg _
      have hpl' : Hid (∀ (j : Nat) (x : Int × Int), j < k + 1 → (zs.set k (p1, (k : Int)))[j]? = some x → x.2 = (j : Int)) := hide (fun j x hj hjx => by
        rw [List.getElem?_set] at hjx
        split at hjx
        · rename_i hkj
          subst hkj
          split at hjx
          · cases hjx; rfl
          · cases hjx
        · exact hpl.out j x (by omega) hjx)
      replace oZ' := hide oZ'
      replace hx := hide hx
      go_wp2
      refine ⟨?_, ?_⟩
      · first
          | exact ⟨k + 1, zs.set k (p1, (k : Int)), by omega, by go_num, hide (by rw [List.length_set]; exact hzl.out), hpl', oZ', hB'⟩
          | ((repeat apply Exists.intro); exact ⟨⟨k + 1, zs.set k (p1, (k : Int)), by omega, by go_num, hide (by rw [List.length_set]; exact hzl.out), hpl', oZ', hB'⟩, rfl⟩)
      · first | (simp [intOf, lenV]; omega) | (simp [intOf]; omega)
    · obtain rfl : k = m := by omega
      obtain ⟨wo, rfl⟩ : ∃ wo : World, wo = wr := ⟨_, rfl⟩
      have hpl' := hide (fun (j : Nat) (x : Int × Int) (hj : zs[j]? = some x) => hpl.out j x (by have := (List.getElem?_eq_some_iff.1 hj).1; rw [hzl.out] at this; exact this) hj)
      obtain ⟨A', c', ev, rdZ, -, -⟩ := oZ.out.rd
      injection ev with ev1 ev2 ev3
      rw [← ev1] at rdZ
      clear hpl hk ev1 ev2 ev3 hm as_ o2 hE2
      replace rdZ := hide rdZ
      go_wp2_with fail
      refine (sort_Pair A2 k c2 zs _ hzl.out.symm rdZ.out hc2 (by omega)).mono ?_
      rintro e w4 ⟨v, rfl, o4, hE4⟩
      obtain ⟨A4, c4, rfl, rd4, hc4, -⟩ := o4.rd
      have hRp := isort_Rp _ zs rfl hpl'.out
      have hper := isort_perm (lt := ltP) zs
      obtain ⟨ls, hls⟩ : ∃ l, l = isort ltP zs := ⟨_, rfl⟩
      rw [← hls] at rd4 hc4 hRp hper ⊢
      have hll : ls.length = k := by rw [hls, length_isort, hzl.out]
      rw [hll] at hc4 ⊢
      clear o4 hls hpl'
      replace hRp := hide hRp
      replace hper := hide hper
      replace hll := hide hll
      replace rdZ := hide (rdZ.out.ext hE4)
      replace rd4 := hide rd4
      replace hE4 := hB.trans (hE4.mono hB.size)
      clear hB oZ
      go_wp2
      go_loopw [33] (fun i wr => ∃ j : Nat, j ≤ k ∧ i = .int .i64 j ∧ Hid (PMap wr w4.heap.size ((ls.take j).map fun z => (z, 1))) ∧ Below w4.heap.size w4 wr) (fun i _ => k - (intOf i).toNat)
      case atStart => exact ⟨0, Nat.zero_le _, rfl, hide (pmap_new w4), (Below.refl _ _).alloc (Nat.le_refl _) _⟩
      case round =>
        obtain ⟨j, hj, rfl, hpm, hB⟩ := hrel
        obtain ⟨hcc, hff⟩ := bcell hB
        have hsz := hB.size
        obtain ⟨wq, rfl⟩ : ∃ wq : World, wq = wr := ⟨_, rfl⟩
        by_cases hlt : j < k
        · obtain ⟨b, off, rfl, hra⟩ := rd4.out.at_ (i := j) (by rw [hll.out]; exact hlt)
          have hb1 := hra.1
          obtain ⟨⟨p1, p2⟩, hx⟩ := get_some (xs := ls) (i := j) (by rw [hll.out]; exact hlt)
          obtain ⟨hx1, hx2⟩ := hra.pair hx
          have hmb := hpm.out.lt
          have hbx : wq.heap.size ≠ w4.heap.size := by omega
          have hlen : ((ls.take j).map fun z => (z, (1 : Int))).length = j := by rw [List.length_map, List.length_take, hll.out]; omega
          have hnew : ∀ m ∈ ((ls.take j).map fun z => (z, (1 : Int))), m.1 ≠ (p1, p2) := by
            intro m hm e
            obtain ⟨z, hz, rfl⟩ := List.mem_map.1 hm
            obtain ⟨i, hi⟩ := List.getElem?_of_mem hz
            rw [List.getElem?_take] at hi
            split at hi
            · obtain ⟨h4, e4⟩ := List.getElem?_eq_some_iff.1 hi
              obtain ⟨h5, e5⟩ := List.getElem?_eq_some_iff.1 hx
              have := List.pairwise_iff_getElem.1 hRp.out i j h4 h5 (by omega)
              rw [e4, e5] at this
              exact Rp_ne this e
            · cases hi
          replace hx := hide hx
          replace hra := hide hra
          replace hnew := hide hnew
          replace hlen := hide hlen
          go_wp2
          refine wp_region_tree (fun W => (wq.alloc (.cells #[.int .i64 p1, .int .i64 p2] 26)).grownBy W (some w4.heap.size)) (.q 0 (.q 1 (.f 2 (.q 3 (.w 4 (.q 5 (.w 6 .nil)))) 4 (.q 5 (.w 2 (.q 3 (.w 6 .nil))))))) (by kernel_rfl) (by kernel_rfl) (by kernel_rfl) (by kernel_rfl) (fun _ _ d _ _ h => by cases d <;> exact h) ?_ ?_
          · exact grown_drew _ _
          have hpm0 := (hpm.out.alloc (.cells #[.int .i64 p1, .int .i64 p2] 26)).drew
          obtain ⟨w6, hrun6, hpm6, hg6⟩ := hpm0.entry_new hnew.out
          rw [hlen.out] at hrun6
          have hat : (((ls.take j).map fun z => (z, (1 : Int))) ++ [((p1, p2), 0)])[j]? = some ((p1, p2), 0) := by
            rw [List.getElem?_append_right (by rw [hlen.out]; exact Nat.le_refl _), hlen.out]
            simp
          obtain ⟨w7, hrun7, hpm7, hg7⟩ := hpm6.store_at (u := 1) hat
          have hnd : ((((ls.take j).map fun z => (z, (1 : Int))) ++ [((p1, p2), (0 : Int))]).map (fun m : (Int × Int) × Int => m.1)).Nodup := by
            have e : (((ls.take j).map fun z => (z, (1 : Int))) ++ [((p1, p2), (0 : Int))]).map (fun m : (Int × Int) × Int => m.1) = ls.take (j + 1) := by
              rw [take_snoc hx.out, List.map_append, List.map_map]
              simp [Function.comp_def]
            rw [e]
            exact (hRp.out.imp Rp_ne).sublist (List.take_sublist _ _)
          have hms : Hid (PMap w7 w4.heap.size ((ls.take (j + 1)).map fun z => (z, 1))) := hide (by
            have e : (((ls.take j).map fun z => (z, (1 : Int))) ++ [((p1, p2), 0)]).set j ((p1, p2), 1) = (ls.take (j + 1)).map fun z => (z, 1) := by
              rw [take_snoc hx.out, List.map_append, List.set_append_right _ _ (by rw [hlen.out]; exact Nat.le_refl _), hlen.out]
              simp
            rw [← e]
            exact hpm7)
          have hg16 := grown_trans (grown_drew (wq.alloc (.cells #[.int .i64 p1, .int .i64 p2] 26)) _) hg6
          have hg17 := grown_trans hg16 hg7
          iterate 2
            apply tree_q rfl rfl
            · intro W hW
              have hcW := gcell hW
              go_simp
              try exact rfl
            simp only [Act.put, List.setIfInBounds_toArray, List.set_cons_zero, List.set_cons_succ]
          refine tree_f ?_ ?_
          · refine tree_op rfl rfl (fun K hK => ?_)
            refine wp_lookP (x := (p1, p2)) rfl rfl rfl (hpm0.look_new hnew.out) ?_
            refine hK _ _ (grown_drew _ _) ?_
            clear hK K
            try simp only [Act.put, List.setIfInBounds_toArray, List.set_cons_zero, List.set_cons_succ]
            iterate 1
              apply tree_q rfl rfl
              · intro W hW
                have hcW := gcell hW
                go_simp
                try exact rfl
              simp only [Act.put, List.setIfInBounds_toArray, List.set_cons_zero, List.set_cons_succ]
            refine tree_w rfl rfl (fun K hK => ?_)
            refine wp_entryP (x := (p1, p2)) rfl rfl rfl hrun6 ?_
            refine hK _ _ hg16 ?_
            clear hK K
            try simp only [Act.put, List.setIfInBounds_toArray, List.set_cons_zero, List.set_cons_succ]
            iterate 1
              apply tree_q rfl rfl
              · intro W hW
                have hcW := gcell hW
                go_simp
                try exact rfl
              simp only [Act.put, List.setIfInBounds_toArray, List.set_cons_zero, List.set_cons_succ]
            refine tree_w rfl rfl (fun K hK => ?_)
            refine wp_storeP rfl rfl rfl rfl hrun7 ?_
            refine hK _ _ hg17 ?_
            clear hK K
            try simp only [Act.put, List.setIfInBounds_toArray, List.set_cons_zero, List.set_cons_succ]
            refine tree_nil ?_
            have hB7 : Below w4.heap.size w4 w7 := (hB.alloc hsz (.cells #[.int .i64 p1, .int .i64 p2] 26)).grown hg17 (by simp; omega) (fun k hk => by injection hk with hk; omega)
            have hy1 : w7.cell? ⟨wq.heap.size, 0, none⟩ = some (.int .i64 p1) := (gcell hg17 _ _ (by simp) hbx).trans (by simp)
            have hy2 : w7.cell? ⟨wq.heap.size, 1, none⟩ = some (.int .i64 p2) := (gcell hg17 _ _ (by simp) hbx).trans (by simp)
            have hs7 : wq.heap.size < w7.heap.size := by have := hg17.size; simp at this; omega
            obtain ⟨hc7, hf7⟩ := bcell hB7
            have hb7 : b < w7.heap.size := by omega
            clear hpm0 hrun6 hpm6 hg6 hat hrun7 hpm7 hg7 hg16 hg17 hnd hpm hcc hff
            by_cases hj0 : j = 0
            · subst hj0
              go_wp2
              refine wp_region_reads [(0, true), (1, true), (2, true), (3, true), (4, true), (5, true), (6, true), (7, true), (8, true), (9, true), (10, true), (11, true), (12, true), (13, true), (14, true), (15, true), (16, true), (17, true), (18, true), (19, true), (20, true), (21, true), (22, true), (23, true), (24, true), (25, true), (26, true), (27, true), (28, true), (29, true), (30, true), (31, true), (32, true), (33, true), (34, true)] (by kernel_rfl) (by kernel_rfl) (by kernel_rfl) (by kernel_rfl) (fun _ _ d _ _ h => by cases d <;> exact h) ?_
              iterate 3
                apply mix_q rfl rfl
                · intro W hW
                  subst hW
                  go_simp
                  try exact rfl
                simp only [Act.put, List.setIfInBounds_toArray, List.set_cons_zero, List.set_cons_succ]
              iterate 31
                refine mix_off rfl (wanted_is rfl rfl rfl rfl rfl) ?_
                simp only [Act.put, List.setIfInBounds_toArray, List.set_cons_zero, List.set_cons_succ]
              iterate 1
                apply mix_q rfl rfl
                · intro W hW
                  subst hW
                  go_simp
                  try exact rfl
                simp only [Act.put, List.setIfInBounds_toArray, List.set_cons_zero, List.set_cons_succ]
              refine mix_nil ?_
              go_wp2
              refine ⟨?_, ?_⟩
              · first
                  | exact ⟨1, by omega, by go_num, hms, hB7.drew⟩
                  | ((repeat apply Exists.intro); exact ⟨⟨1, by omega, by go_num, hms, hB7.drew⟩, rfl⟩)
              · first | (simp [intOf, lenV]; omega) | (simp [intOf]; omega)
            · obtain ⟨⟨q1, q2⟩, hz⟩ := get_some (xs := ls) (i := j - 1) (by rw [hll.out]; omega)
              obtain ⟨hz1, hz2⟩ := hra.out.pair hz
              have hR : Rp (q1, q2) (p1, p2) := by
                obtain ⟨h4, e4⟩ := List.getElem?_eq_some_iff.1 hz
                obtain ⟨h5, e5⟩ := List.getElem?_eq_some_iff.1 hx.out
                have := List.pairwise_iff_getElem.1 hRp.out (j - 1) j h4 h5 (by omega)
                rw [e4, e5] at this
                exact this
              have hle : ¬ p1 < q1 := by
                have := hR.1
                simp [ltP, ltI] at this
                omega
              have hdl : decide (p1 < q1) = false := by simp; omega
              have s1 : IntKind.i64.wrap ((j : Int) - 1) = (j : Int) - 1 := IntWalk.i64_in _ (by omega)
              have s2 : (0 : Int) ≤ (j : Int) - 1 := by omega
              have s3 : ((j : Int) - 1).toNat = j - 1 := by omega
              have s4 : (j : Int) - 1 < (k : Int) := by omega
              have s5 : (1 : Int) ≤ (j : Int) := by omega
              have s6 : (0 : Int) < (j : Int) := by omega
              have s7 : 0 < j := by omega
              replace hz := hide hz
              by_cases he : q1 = p1
              · have hlt2 : q2 < p2 := hR.2 he
                have hd2 : decide (p2 ≤ q2) = false := by simp; omega
                subst he
                replace hR := hide hR
                go_wp2
                refine wp_region_reads [(0, true), (1, true), (2, true), (3, true), (4, true), (5, true), (6, true), (7, true), (8, true), (9, true), (10, true), (11, true), (12, true), (13, true), (14, true), (15, true), (16, true), (17, true), (18, true), (19, true), (20, true), (21, true), (22, true), (23, true), (24, true), (25, true), (26, true), (27, true), (28, true), (29, true), (30, true), (31, true), (32, true), (33, true), (34, true)] (by kernel_rfl) (by kernel_rfl) (by kernel_rfl) (by kernel_rfl) (fun _ _ d _ _ h => by cases d <;> exact h) ?_
                iterate 3
                  apply mix_q rfl rfl
                  · intro W hW
                    subst hW
                    go_simp
                    try exact rfl
                  simp only [Act.put, List.setIfInBounds_toArray, List.set_cons_zero, List.set_cons_succ]
                iterate 10
                  apply mix_on rfl (wanted_is rfl rfl rfl rfl rfl)
                  · intro W hW
                    subst hW
                    go_simp
                    try exact rfl
                  simp only [Act.put, List.setIfInBounds_toArray, List.set_cons_zero, List.set_cons_succ]
                iterate 10
                  apply mix_on rfl (wanted_is rfl rfl rfl rfl rfl)
                  · intro W hW
                    subst hW
                    go_simp
                    try exact rfl
                  simp only [Act.put, List.setIfInBounds_toArray, List.set_cons_zero, List.set_cons_succ]
                iterate 9
                  apply mix_on rfl (wanted_is rfl rfl rfl rfl rfl)
                  · intro W hW
                    subst hW
                    go_simp
                    try exact rfl
                  simp only [Act.put, List.setIfInBounds_toArray, List.set_cons_zero, List.set_cons_succ]
                iterate 2
                  apply mix_on rfl (wanted_is rfl rfl rfl rfl rfl)
                  · intro W hW
                    subst hW
                    go_simp
                    try exact rfl
                  simp only [Act.put, List.setIfInBounds_toArray, List.set_cons_zero, List.set_cons_succ]
                iterate 1
                  apply mix_q rfl rfl
                  · intro W hW
                    subst hW
                    go_simp
                    try exact rfl
                  simp only [Act.put, List.setIfInBounds_toArray, List.set_cons_zero, List.set_cons_succ]
                refine mix_nil ?_
                go_wp2
                refine ⟨?_, ?_⟩
                · first
                    | exact ⟨j + 1, by omega, by go_num, hms, hB7.drew⟩
                    | ((repeat apply Exists.intro); exact ⟨⟨j + 1, by omega, by go_num, hms, hB7.drew⟩, rfl⟩)
                · first | (simp [intOf, lenV]; omega) | (simp [intOf]; omega)
              · have hd2 : (q1 == p1) = false := by simp; exact he
                replace hR := hide hR
                go_wp2
                refine wp_region_reads [(0, true), (1, true), (2, true), (3, true), (4, true), (5, true), (6, true), (7, true), (8, true), (9, true), (10, true), (11, true), (12, true), (13, true), (14, true), (15, true), (16, true), (17, true), (18, true), (19, true), (20, true), (21, true), (22, true), (23, true), (24, true), (25, true), (26, true), (27, true), (28, true), (29, true), (30, true), (31, true), (32, true), (33, true), (34, true)] (by kernel_rfl) (by kernel_rfl) (by kernel_rfl) (by kernel_rfl) (fun _ _ d _ _ h => by cases d <;> exact h) ?_
                iterate 3
                  apply mix_q rfl rfl
                  · intro W hW
                    subst hW
                    go_simp
                    try exact rfl
                  simp only [Act.put, List.setIfInBounds_toArray, List.set_cons_zero, List.set_cons_succ]
                iterate 10
                  apply mix_on rfl (wanted_is rfl rfl rfl rfl rfl)
                  · intro W hW
                    subst hW
                    go_simp
                    try exact rfl
                  simp only [Act.put, List.setIfInBounds_toArray, List.set_cons_zero, List.set_cons_succ]
                iterate 10
                  apply mix_on rfl (wanted_is rfl rfl rfl rfl rfl)
                  · intro W hW
                    subst hW
                    go_simp
                    try exact rfl
                  simp only [Act.put, List.setIfInBounds_toArray, List.set_cons_zero, List.set_cons_succ]
                iterate 9
                  refine mix_off rfl (wanted_is rfl rfl rfl rfl rfl) ?_
                  simp only [Act.put, List.setIfInBounds_toArray, List.set_cons_zero, List.set_cons_succ]
                iterate 2
                  apply mix_on rfl (wanted_is rfl rfl rfl rfl rfl)
                  · intro W hW
                    subst hW
                    go_simp
                    try exact rfl
                  simp only [Act.put, List.setIfInBounds_toArray, List.set_cons_zero, List.set_cons_succ]
                iterate 1
                  apply mix_q rfl rfl
                  · intro W hW
                    subst hW
                    go_simp
                    try exact rfl
                  simp only [Act.put, List.setIfInBounds_toArray, List.set_cons_zero, List.set_cons_succ]
                refine mix_nil ?_
                go_wp2
                refine ⟨?_, ?_⟩
                · first
                    | exact ⟨j + 1, by omega, by go_num, hms, hB7.drew⟩
                    | ((repeat apply Exists.intro); exact ⟨⟨j + 1, by omega, by go_num, hms, hB7.drew⟩, rfl⟩)
                · first | (simp [intOf, lenV]; omega) | (simp [intOf]; omega)
          · refine tree_op rfl rfl (fun K hK => ?_)
            refine wp_entryP (x := (p1, p2)) rfl rfl rfl hrun6 ?_
            refine hK _ _ hg16 ?_
            clear hK K
            try simp only [Act.put, List.setIfInBounds_toArray, List.set_cons_zero, List.set_cons_succ]
            iterate 1
              apply tree_q rfl rfl
              · intro W hW
                have hcW := gcell hW
                go_simp
                try exact rfl
              simp only [Act.put, List.setIfInBounds_toArray, List.set_cons_zero, List.set_cons_succ]
            refine tree_w rfl rfl (fun K hK => ?_)
            refine wp_lookP (x := (p1, p2)) rfl rfl rfl (hpm6.look_at hnd hat) ?_
            refine hK _ _ hg16 ?_
            clear hK K
            try simp only [Act.put, List.setIfInBounds_toArray, List.set_cons_zero, List.set_cons_succ]
            iterate 1
              apply tree_q rfl rfl
              · intro W hW
                have hcW := gcell hW
                go_simp
                try exact rfl
              simp only [Act.put, List.setIfInBounds_toArray, List.set_cons_zero, List.set_cons_succ]
            refine tree_w rfl rfl (fun K hK => ?_)
            refine wp_storeP rfl rfl rfl rfl hrun7 ?_
            refine hK _ _ hg17 ?_
            clear hK K
            try simp only [Act.put, List.setIfInBounds_toArray, List.set_cons_zero, List.set_cons_succ]
            refine tree_nil ?_
            have hB7 : Below w4.heap.size w4 w7 := (hB.alloc hsz (.cells #[.int .i64 p1, .int .i64 p2] 26)).grown hg17 (by simp; omega) (fun k hk => by injection hk with hk; omega)
            have hy1 : w7.cell? ⟨wq.heap.size, 0, none⟩ = some (.int .i64 p1) := (gcell hg17 _ _ (by simp) hbx).trans (by simp)
            have hy2 : w7.cell? ⟨wq.heap.size, 1, none⟩ = some (.int .i64 p2) := (gcell hg17 _ _ (by simp) hbx).trans (by simp)
            have hs7 : wq.heap.size < w7.heap.size := by have := hg17.size; simp at this; omega
            obtain ⟨hc7, hf7⟩ := bcell hB7
            have hb7 : b < w7.heap.size := by omega
            clear hpm0 hrun6 hpm6 hg6 hat hrun7 hpm7 hg7 hg16 hg17 hnd hpm hcc hff
            by_cases hj0 : j = 0
            · subst hj0
              go_wp2
              refine wp_region_reads [(0, true), (1, true), (2, true), (3, true), (4, true), (5, true), (6, true), (7, true), (8, true), (9, true), (10, true), (11, true), (12, true), (13, true), (14, true), (15, true), (16, true), (17, true), (18, true), (19, true), (20, true), (21, true), (22, true), (23, true), (24, true), (25, true), (26, true), (27, true), (28, true), (29, true), (30, true), (31, true), (32, true), (33, true), (34, true)] (by kernel_rfl) (by kernel_rfl) (by kernel_rfl) (by kernel_rfl) (fun _ _ d _ _ h => by cases d <;> exact h) ?_
              iterate 3
                apply mix_q rfl rfl
                · intro W hW
                  subst hW
                  go_simp
                  try exact rfl
                simp only [Act.put, List.setIfInBounds_toArray, List.set_cons_zero, List.set_cons_succ]
              iterate 31
                refine mix_off rfl (wanted_is rfl rfl rfl rfl rfl) ?_
                simp only [Act.put, List.setIfInBounds_toArray, List.set_cons_zero, List.set_cons_succ]
              iterate 1
                apply mix_q rfl rfl
                · intro W hW
                  subst hW
                  go_simp
                  try exact rfl
                simp only [Act.put, List.setIfInBounds_toArray, List.set_cons_zero, List.set_cons_succ]
              refine mix_nil ?_
              go_wp2
              refine ⟨?_, ?_⟩
              · first
                  | exact ⟨1, by omega, by go_num, hms, hB7.drew⟩
                  | ((repeat apply Exists.intro); exact ⟨⟨1, by omega, by go_num, hms, hB7.drew⟩, rfl⟩)
              · first | (simp [intOf, lenV]; omega) | (simp [intOf]; omega)
            · obtain ⟨⟨q1, q2⟩, hz⟩ := get_some (xs := ls) (i := j - 1) (by rw [hll.out]; omega)
              obtain ⟨hz1, hz2⟩ := hra.out.pair hz
              have hR : Rp (q1, q2) (p1, p2) := by
                obtain ⟨h4, e4⟩ := List.getElem?_eq_some_iff.1 hz
                obtain ⟨h5, e5⟩ := List.getElem?_eq_some_iff.1 hx.out
                have := List.pairwise_iff_getElem.1 hRp.out (j - 1) j h4 h5 (by omega)
                rw [e4, e5] at this
                exact this
              have hle : ¬ p1 < q1 := by
                have := hR.1
                simp [ltP, ltI] at this
                omega
              have hdl : decide (p1 < q1) = false := by simp; omega
              have s1 : IntKind.i64.wrap ((j : Int) - 1) = (j : Int) - 1 := IntWalk.i64_in _ (by omega)
              have s2 : (0 : Int) ≤ (j : Int) - 1 := by omega
              have s3 : ((j : Int) - 1).toNat = j - 1 := by omega
              have s4 : (j : Int) - 1 < (k : Int) := by omega
              have s5 : (1 : Int) ≤ (j : Int) := by omega
              have s6 : (0 : Int) < (j : Int) := by omega
              have s7 : 0 < j := by omega
              replace hz := hide hz
              by_cases he : q1 = p1
              · have hlt2 : q2 < p2 := hR.2 he
                have hd2 : decide (p2 ≤ q2) = false := by simp; omega
                subst he
                replace hR := hide hR
                go_wp2
                refine wp_region_reads [(0, true), (1, true), (2, true), (3, true), (4, true), (5, true), (6, true), (7, true), (8, true), (9, true), (10, true), (11, true), (12, true), (13, true), (14, true), (15, true), (16, true), (17, true), (18, true), (19, true), (20, true), (21, true), (22, true), (23, true), (24, true), (25, true), (26, true), (27, true), (28, true), (29, true), (30, true), (31, true), (32, true), (33, true), (34, true)] (by kernel_rfl) (by kernel_rfl) (by kernel_rfl) (by kernel_rfl) (fun _ _ d _ _ h => by cases d <;> exact h) ?_
                iterate 3
                  apply mix_q rfl rfl
                  · intro W hW
                    subst hW
                    go_simp
                    try exact rfl
                  simp only [Act.put, List.setIfInBounds_toArray, List.set_cons_zero, List.set_cons_succ]
                iterate 10
                  apply mix_on rfl (wanted_is rfl rfl rfl rfl rfl)
                  · intro W hW
                    subst hW
                    go_simp
                    try exact rfl
                  simp only [Act.put, List.setIfInBounds_toArray, List.set_cons_zero, List.set_cons_succ]
                iterate 10
                  apply mix_on rfl (wanted_is rfl rfl rfl rfl rfl)
                  · intro W hW
                    subst hW
                    go_simp
                    try exact rfl
                  simp only [Act.put, List.setIfInBounds_toArray, List.set_cons_zero, List.set_cons_succ]
                iterate 9
                  apply mix_on rfl (wanted_is rfl rfl rfl rfl rfl)
                  · intro W hW
                    subst hW
                    go_simp
                    try exact rfl
                  simp only [Act.put, List.setIfInBounds_toArray, List.set_cons_zero, List.set_cons_succ]
                iterate 2
                  apply mix_on rfl (wanted_is rfl rfl rfl rfl rfl)
                  · intro W hW
                    subst hW
                    go_simp
                    try exact rfl
                  simp only [Act.put, List.setIfInBounds_toArray, List.set_cons_zero, List.set_cons_succ]
                iterate 1
                  apply mix_q rfl rfl
                  · intro W hW
                    subst hW
                    go_simp
                    try exact rfl
                  simp only [Act.put, List.setIfInBounds_toArray, List.set_cons_zero, List.set_cons_succ]
                refine mix_nil ?_
                go_wp2
                refine ⟨?_, ?_⟩
                · first
                    | exact ⟨j + 1, by omega, by go_num, hms, hB7.drew⟩
                    | ((repeat apply Exists.intro); exact ⟨⟨j + 1, by omega, by go_num, hms, hB7.drew⟩, rfl⟩)
                · first | (simp [intOf, lenV]; omega) | (simp [intOf]; omega)
              · have hd2 : (q1 == p1) = false := by simp; exact he
                replace hR := hide hR
                go_wp2
                refine wp_region_reads [(0, true), (1, true), (2, true), (3, true), (4, true), (5, true), (6, true), (7, true), (8, true), (9, true), (10, true), (11, true), (12, true), (13, true), (14, true), (15, true), (16, true), (17, true), (18, true), (19, true), (20, true), (21, true), (22, true), (23, true), (24, true), (25, true), (26, true), (27, true), (28, true), (29, true), (30, true), (31, true), (32, true), (33, true), (34, true)] (by kernel_rfl) (by kernel_rfl) (by kernel_rfl) (by kernel_rfl) (fun _ _ d _ _ h => by cases d <;> exact h) ?_
                iterate 3
                  apply mix_q rfl rfl
                  · intro W hW
                    subst hW
                    go_simp
                    try exact rfl
                  simp only [Act.put, List.setIfInBounds_toArray, List.set_cons_zero, List.set_cons_succ]
                iterate 10
                  apply mix_on rfl (wanted_is rfl rfl rfl rfl rfl)
                  · intro W hW
                    subst hW
                    go_simp
                    try exact rfl
                  simp only [Act.put, List.setIfInBounds_toArray, List.set_cons_zero, List.set_cons_succ]
                iterate 10
                  apply mix_on rfl (wanted_is rfl rfl rfl rfl rfl)
                  · intro W hW
                    subst hW
                    go_simp
                    try exact rfl
                  simp only [Act.put, List.setIfInBounds_toArray, List.set_cons_zero, List.set_cons_succ]
                iterate 9
                  refine mix_off rfl (wanted_is rfl rfl rfl rfl rfl) ?_
                  simp only [Act.put, List.setIfInBounds_toArray, List.set_cons_zero, List.set_cons_succ]
                iterate 2
                  apply mix_on rfl (wanted_is rfl rfl rfl rfl rfl)
                  · intro W hW
                    subst hW
                    go_simp
                    try exact rfl
                  simp only [Act.put, List.setIfInBounds_toArray, List.set_cons_zero, List.set_cons_succ]
                iterate 1
                  apply mix_q rfl rfl
                  · intro W hW
                    subst hW
                    go_simp
                    try exact rfl
                  simp only [Act.put, List.setIfInBounds_toArray, List.set_cons_zero, List.set_cons_succ]
                refine mix_nil ?_
                go_wp2
                refine ⟨?_, ?_⟩
                · first
                    | exact ⟨j + 1, by omega, by go_num, hms, hB7.drew⟩
                    | ((repeat apply Exists.intro); exact ⟨⟨j + 1, by omega, by go_num, hms, hB7.drew⟩, rfl⟩)
                · first | (simp [intOf, lenV]; omega) | (simp [intOf]; omega)
        · obtain rfl : j = k := by omega
          have hls : (ls.take j).map (fun z => (z, (1 : Int))) = ls.map fun z => (z, if z ∈ zs.take 0 then (0 : Int) else 1) := by
            rw [List.take_of_length_le (by rw [hll.out]; exact Nat.le_refl _)]
            simp
          replace hpm := hide (by rw [← hls]; exact hpm.out : PMap wq w4.heap.size (ls.map fun z => (z, if z ∈ zs.take 0 then (0 : Int) else 1)))
          clear hls hj
          go_wp2
          go_loopw [82] (fun i wr => ∃ k : Nat, k ≤ j ∧ i = .int .i64 k ∧ Hid (PMap wr w4.heap.size (ls.map fun z => (z, if z ∈ zs.take k then (0 : Int) else 1))) ∧ Below w4.heap.size w4 wr) (fun i _ => j - (intOf i).toNat)
          case atStart => exact ⟨0, Nat.zero_le _, rfl, hpm, hB⟩
          case round =>
            clear hpm hcc hff hsz hB
            obtain ⟨k, hk, rfl, hpm, hB⟩ := hrel
            obtain ⟨hcc, hff⟩ := bcell hB
            have hsz := hB.size
            obtain ⟨wz, rfl⟩ : ∃ wz : World, wz = wr := ⟨_, rfl⟩
            by_cases hlt : k < j
            · obtain ⟨b, off, rfl, hra⟩ := rdZ.out.at_ (i := k) (by rw [hzl.out]; exact hlt)
              have hb1 := hra.1
              obtain ⟨⟨p1, p2⟩, hx⟩ := get_some (xs := zs) (i := k) (by rw [hzl.out]; exact hlt)
              obtain ⟨hx1, hx2⟩ := hra.pair hx
              have hmb := hpm.out.lt
              have hbx : wz.heap.size ≠ w4.heap.size := by omega
              have hznd : zs.Nodup := hper.out.nodup_iff.1 (hRp.out.imp Rp_ne)
              have hnk : (p1, p2) ∉ zs.take k := by
                intro hm
                obtain ⟨i, hi⟩ := List.getElem?_of_mem hm
                rw [List.getElem?_take] at hi
                split at hi
                · obtain ⟨h4, e4⟩ := List.getElem?_eq_some_iff.1 hi
                  obtain ⟨h5, e5⟩ := List.getElem?_eq_some_iff.1 hx
                  have := List.pairwise_iff_getElem.1 hznd i k h4 h5 (by omega)
                  rw [e4, e5] at this
                  exact this rfl
                · cases hi
              obtain ⟨i, hi⟩ := List.getElem?_of_mem (hper.out.mem_iff.2 (List.mem_of_getElem? hx))
              have hat : (ls.map fun z => (z, if z ∈ zs.take k then (0 : Int) else 1))[i]? = some ((p1, p2), 1) := by
                rw [List.getElem?_map, hi]
                simp [hnk]
              have hnd : ((ls.map fun z => (z, if z ∈ zs.take k then (0 : Int) else 1)).map (fun m : (Int × Int) × Int => m.1)).Nodup := by
                rw [List.map_map]
                simp [Function.comp_def]
                exact hRp.out.imp Rp_ne
              have hset : (ls.map fun z => (z, if z ∈ zs.take k then (0 : Int) else 1)).set i ((p1, p2), 0) = ls.map fun z => (z, if z ∈ zs.take (k + 1) then (0 : Int) else 1) := by
                apply List.ext_getElem?
                intro q
                rw [List.getElem?_set, List.getElem?_map, List.getElem?_map, take_snoc hx]
                by_cases hq : i = q
                · subst hq
                  obtain ⟨hil, hie⟩ := List.getElem?_eq_some_iff.1 hi
                  simp [hil, hie]
                · rw [if_neg hq]
                  cases hlq : ls[q]? with
                  | none => rfl
                  | some z =>
                    have hne : z ≠ (p1, p2) := by
                      intro e
                      subst e
                      obtain ⟨h4, e4⟩ := List.getElem?_eq_some_iff.1 hi
                      obtain ⟨h5, e5⟩ := List.getElem?_eq_some_iff.1 hlq
                      have hlnd : ls.Nodup := hRp.out.imp Rp_ne
                      rcases Nat.lt_trichotomy i q with hl | hl | hl
                      · exact List.pairwise_iff_getElem.1 hlnd i q h4 h5 hl (e4.trans e5.symm)
                      · exact hq hl
                      · exact List.pairwise_iff_getElem.1 hlnd q i h5 h4 hl (e5.trans e4.symm)
                    simp [hne]
              replace hx := hide hx
              replace hra := hide hra
              replace hnk := hide hnk
              replace hznd := hide hznd
              replace hi := hide hi
              go_wp2
              refine wp_region_tree (fun W => (wz.alloc (.cells #[.int .i64 p1, .int .i64 p2] 26)).grownBy W (some w4.heap.size)) (.q 0 (.q 1 (.f 2 (.q 3 (.w 4 (.q 5 (.w 6 .nil)))) 4 (.q 5 (.w 2 (.q 3 (.w 6 .nil))))))) (by kernel_rfl) (by kernel_rfl) (by kernel_rfl) (by kernel_rfl) (fun _ _ d _ _ h => by cases d <;> exact h) ?_ ?_
              · exact grown_drew _ _
              have hpm0 := (hpm.out.alloc (.cells #[.int .i64 p1, .int .i64 p2] 26)).drew
              obtain ⟨w6, hrun6, hpm6, hg6⟩ := hpm0.entry_at hnd hat
              obtain ⟨w7, hrun7, hpm7, hg7⟩ := hpm6.store_at (u := 0) hat
              rw [hset] at hpm7
              have hms := hide hpm7
              have hg16 := grown_trans (grown_drew (wz.alloc (.cells #[.int .i64 p1, .int .i64 p2] 26)) _) hg6
              have hg17 := grown_trans hg16 hg7
              iterate 2
                apply tree_q rfl rfl
                · intro W hW
                  have hcW := gcell hW
                  go_simp
                  try exact rfl
                simp only [Act.put, List.setIfInBounds_toArray, List.set_cons_zero, List.set_cons_succ]
              refine tree_f ?_ ?_
              · refine tree_op rfl rfl (fun K hK => ?_)
                refine wp_lookP (x := (p1, p2)) rfl rfl rfl (hpm0.look_at hnd hat) ?_
                refine hK _ _ (grown_drew _ _) ?_
                clear hK K
                try simp only [Act.put, List.setIfInBounds_toArray, List.set_cons_zero, List.set_cons_succ]
                iterate 1
                  apply tree_q rfl rfl
                  · intro W hW
                    have hcW := gcell hW
                    go_simp
                    try exact rfl
                  simp only [Act.put, List.setIfInBounds_toArray, List.set_cons_zero, List.set_cons_succ]
                refine tree_w rfl rfl (fun K hK => ?_)
                refine wp_entryP (x := (p1, p2)) rfl rfl rfl hrun6 ?_
                refine hK _ _ hg16 ?_
                clear hK K
                try simp only [Act.put, List.setIfInBounds_toArray, List.set_cons_zero, List.set_cons_succ]
                iterate 1
                  apply tree_q rfl rfl
                  · intro W hW
                    have hcW := gcell hW
                    go_simp
                    try exact rfl
                  simp only [Act.put, List.setIfInBounds_toArray, List.set_cons_zero, List.set_cons_succ]
                refine tree_w rfl rfl (fun K hK => ?_)
                refine wp_storeP rfl rfl rfl rfl hrun7 ?_
                refine hK _ _ hg17 ?_
                clear hK K
                try simp only [Act.put, List.setIfInBounds_toArray, List.set_cons_zero, List.set_cons_succ]
                refine tree_nil ?_
                have hB7 : Below w4.heap.size w4 w7 := (hB.alloc hsz (.cells #[.int .i64 p1, .int .i64 p2] 26)).grown hg17 (by simp; omega) (fun k hk => by injection hk with hk; omega)
                have hs7 : wz.heap.size < w7.heap.size := by have := hg17.size; simp at this; omega
                obtain ⟨hc7, hf7⟩ := bcell hB7
                have hb7 : b < w7.heap.size := by omega
                clear hpm0 hrun6 hpm6 hg6 hat hrun7 hpm7 hg7 hg16 hg17 hnd hpm hcc hff
                go_wp2
                refine ⟨?_, ?_⟩
                · first
                    | exact ⟨k + 1, by omega, by go_num, hms, hB7⟩
                    | ((repeat apply Exists.intro); exact ⟨⟨k + 1, by omega, by go_num, hms, hB7⟩, rfl⟩)
                · first | (simp [intOf, lenV]; omega) | (simp [intOf]; omega)
              · refine tree_op rfl rfl (fun K hK => ?_)
                refine wp_entryP (x := (p1, p2)) rfl rfl rfl hrun6 ?_
                refine hK _ _ hg16 ?_
                clear hK K
                try simp only [Act.put, List.setIfInBounds_toArray, List.set_cons_zero, List.set_cons_succ]
                iterate 1
                  apply tree_q rfl rfl
                  · intro W hW
                    have hcW := gcell hW
                    go_simp
                    try exact rfl
                  simp only [Act.put, List.setIfInBounds_toArray, List.set_cons_zero, List.set_cons_succ]
                refine tree_w rfl rfl (fun K hK => ?_)
                refine wp_lookP (x := (p1, p2)) rfl rfl rfl (hpm6.look_at hnd hat) ?_
                refine hK _ _ hg16 ?_
                clear hK K
                try simp only [Act.put, List.setIfInBounds_toArray, List.set_cons_zero, List.set_cons_succ]
                iterate 1
                  apply tree_q rfl rfl
                  · intro W hW
                    have hcW := gcell hW
                    go_simp
                    try exact rfl
                  simp only [Act.put, List.setIfInBounds_toArray, List.set_cons_zero, List.set_cons_succ]
                refine tree_w rfl rfl (fun K hK => ?_)
                refine wp_storeP rfl rfl rfl rfl hrun7 ?_
                refine hK _ _ hg17 ?_
                clear hK K
                try simp only [Act.put, List.setIfInBounds_toArray, List.set_cons_zero, List.set_cons_succ]
                refine tree_nil ?_
                have hB7 : Below w4.heap.size w4 w7 := (hB.alloc hsz (.cells #[.int .i64 p1, .int .i64 p2] 26)).grown hg17 (by simp; omega) (fun k hk => by injection hk with hk; omega)
                have hs7 : wz.heap.size < w7.heap.size := by have := hg17.size; simp at this; omega
                obtain ⟨hc7, hf7⟩ := bcell hB7
                have hb7 : b < w7.heap.size := by omega
                clear hpm0 hrun6 hpm6 hg6 hat hrun7 hpm7 hg7 hg16 hg17 hnd hpm hcc hff
                go_wp2
                refine ⟨?_, ?_⟩
                · first
                    | exact ⟨k + 1, by omega, by go_num, hms, hB7⟩
                    | ((repeat apply Exists.intro); exact ⟨⟨k + 1, by omega, by go_num, hms, hB7⟩, rfl⟩)
                · first | (simp [intOf, lenV]; omega) | (simp [intOf]; omega)
            · obtain rfl : k = j := by omega
              have hms : (ls.map fun z => (z, if z ∈ zs.take k then (0 : Int) else 1)) = ls.map fun z => (z, (0 : Int)) := by
                rw [List.take_of_length_le (by rw [hzl.out]; exact Nat.le_refl _)]
                apply List.map_congr_left
                intro z hz
                rw [if_pos (hper.out.mem_iff.1 hz)]
              have hpz : PMap wz w4.heap.size (ls.map fun z => (z, (0 : Int))) := by rw [← hms]; exact hpm.out
              clear hms hpm hk
              replace hpz := hide hpz
              go_wp2_with (first
                | (at_range; refine wpList_rangeP _ rfl _ rfl rfl hpz.out ?_; intro w0 hrg0 hpz0 hE0)
                | go_in)
              go_frame
              have hrs : wz.heap.size ≠ w4.heap.size := fun e => by
                obtain ⟨seen, h1⟩ := hrg0
                obtain ⟨es, h2, _⟩ := hpz0
                rw [e, h2] at h1
                cases h1
              have hB0 : Below w4.heap.size w4 w0 := hB.trans (hE0.mono hsz)
              obtain ⟨r, hr⟩ : ∃ r, r = wz.heap.size := ⟨_, rfl⟩
              rw [← hr] at hrs hrg0 ⊢
              have hr4 : w4.heap.size < r := by omega
              replace hrg0 := hide hrg0
              replace hpz0 := hide hpz0
              replace hr := hide hr
              clear hB hcc hff hsz hpz hE0
              go_loopw [12] (fun _ wr => Hid (PMap wr w4.heap.size (ls.map fun z => (z, (0 : Int)))) ∧ Hid (IterAt wr r w4.heap.size (ls.map fun z => (z, (0 : Int))).length) ∧ Below w4.heap.size w4 wr) (fun _ wr => leftN wr r w4.heap.size)
              case atStart => exact ⟨hpz0, hrg0, hB0⟩
              case round =>
                obtain ⟨hpm, hit, hB⟩ := hrel
                obtain ⟨hcc, hff⟩ := bcell hB
                have hsz := hB.size
                go_wp2_with (first
                  | (at_next; refine wpList_nextP _ rfl _ rfl rfl hpm.out hit.out ?_ ?_)
                  | go_in)
                · go_wp2
                  go_ret
                  exact ⟨rfl, hE1.trans ((hE4.trans (hB.mono hE4.size)).mono hE1.size)⟩
                · intro i x1 x2 v w' y1 y2 hy e1 e2 e3 hpm' hit' hlt' hg' hen
                  subst e1 e2
                  subst e3
                  have hB' : Below w4.heap.size w4 w' := hB.grown hg' (by omega) (fun k hk => by injection hk with hk; omega)
                  replace hpm' := hide hpm'
                  replace hit' := hide (by rw [List.length_map]; exact hit' : IterAt w' r w4.heap.size (ls.map fun z => (z, (0 : Int))).length)
                  replace hy := hide hy
                  go_wp2
                  exact ⟨⟨hpm', hit', hB'⟩, hlt'⟩
end Go.Proofs.Ytecfceabioajkaa
