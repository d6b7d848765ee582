/- OrderWords: texts, too, are sorted, and found. -/
import Derived.Test.YtecfceabioajkaaUniq
import Derived.Test.YtecfceabioajkaaMapS
namespace Go.Proofs.Ytecfceabioajkaa
open Go.RowKit

theorem zero_boolT (w : World) : (zeroValue 4).run Try.prog w = .ok (.bool false) w := by kernel_rfl

set_option maxHeartbeats 1000000 in
theorem wordsAsk1_any (a s : ByteArray) (g : Int) (bk : Nat) (w : World) (h : w.cell? ⟨bk, 0, none⟩ = some (.string s)) (hb : bk < w.heap.size) (hg : g = cmpS a s) :
    Calls Try.prog 29 #[.string a, .pointer (some ⟨bk, 0, none⟩)] w fun e w' => e = .returned (.int .i64 g) ∧ Ext w w' := by
  subst hg
  go_enter Try.func29, Try.ntmps29
  go_wp2_with fail
  refine (compare_str _ _ _).mono ?_
  rintro e w1 ⟨rfl, hE⟩
  go_wp2
  go_ret
  exact ⟨rfl, hE⟩
set_option maxHeartbeats 1000000 in
theorem wordsAsk2_any (a s : ByteArray) (g : Int) (bk : Nat) (w : World) (h : w.cell? ⟨bk, 0, none⟩ = some (.string s)) (hb : bk < w.heap.size) (hg : g = cmpS a s) :
    Calls Try.prog 30 #[.string a, .pointer (some ⟨bk, 0, none⟩)] w fun e w' => e = .returned (.int .i64 g) ∧ Ext w w' := by
  subst hg
  go_enter Try.func30, Try.ntmps30
  go_wp2_with fail
  refine (compare_str _ _ _).mono ?_
  rintro e w1 ⟨rfl, hE⟩
  go_wp2
  go_ret
  exact ⟨rfl, hE⟩

set_option maxHeartbeats 4000000 in
theorem orderWords_any (A : Option Addr) (n c : Nat) (xs : List ByteArray) (s : ByteArray) (w : World) (hn : n = xs.length) (h : Rd strE w.heap.size w A xs) (hc : n ≤ c) :
    Calls Try.prog 7 #[.slice A n c, .string s] w fun e w' => e = .returned (.bool true) ∧ Ext w w' := by
  have hl : min n 40 = (xs.take 40).length := by rw [List.length_take, Nat.min_comm]; omega
  replace hl := hide hl
  have H40 := hide (h.take 40)
  clear h hn
  obtain ⟨l4, hl4⟩ : ∃ l, l = xs.take 40 := ⟨_, rfl⟩
  rw [← hl4] at hl H40
  clear hl4 xs
  go_enter Try.func7, Try.ntmps7
  go_wp2_with fail
  refine (wakes_any _).mono ?_
  rintro e w1 ⟨rfl, hE1⟩
  have hs1 : w.heap.size < w1.heap.size := by have := hE1.size; simp at this; omega
  have hcs : w1.cell? ⟨w.heap.size, 0, none⟩ = some (.string s) := (hE1.cell (p := ⟨w.heap.size, 0, none⟩) (by simp)).trans (by simp)
  have hE01 : Ext w w1 := ((Below.refl _ _).alloc (Nat.le_refl _) _).trans (hE1.mono (by simp))
  replace H40 := hide (H40.out.ext hE01)
  replace hcs := hide hcs
  clear hE1
  go_wp2_with fail
  all_goals
    refine (clone_Str A _ c l4 _ (by rw [← hl.out]; omega) H40.out (by omega)).mono ?_
    rintro e w2 ⟨v, rfl, o2, hE2⟩
    obtain ⟨A2, c2, rfl, rd2, hc2, -⟩ := o2.rd
    clear o2
    obtain ⟨m, hm⟩ : ∃ m, m = l4.length := ⟨_, rfl⟩
    rw [← hm] at hc2 ⊢
    have hm40 : m ≤ 40 := by rw [hm, ← hl.out]; omega
    replace hm := hide hm
    replace rd2 := hide rd2
    replace hcs := hide ((hE2.cell (p := ⟨w.heap.size, 0, none⟩) hs1).trans hcs.out)
    have hs2 : w.heap.size < w2.heap.size := Nat.lt_of_lt_of_le hs1 hE2.size
    replace hE2 := hE01.trans (hE2.mono hE01.size)
    clear H40 hE01
    go_wp2_with fail
    refine (sort_Str A2 m c2 l4 _ hm.out rd2.out hc2 (by omega)).mono ?_
    rintro e w3 ⟨v, rfl, o3, hE3⟩
    obtain ⟨A3, c3, rfl, rd3, hc3, -⟩ := o3.rd
    clear o3
    obtain ⟨zs, hzs⟩ : ∃ l, l = isort ltS l4 := ⟨_, rfl⟩
    rw [← hzs] at rd3 hc3 ⊢
    have hzl : zs.length = m := by rw [hzs, length_isort, ← hm.out]
    rw [hzl] at hc3 ⊢
    have hss := hide (show srt ltS zs by rw [hzs]; exact srt_isort swo_S l4)
    have hzm : Hid (∀ x, x ∈ zs ↔ x ∈ l4) := hide (fun x => by rw [hzs]; exact (isort_perm l4).mem_iff)
    clear hzs
    replace hzl := hide hzl
    replace rd3 := hide rd3
    go_wp2_with fail
    refine (unique_Str A3 m c3 zs _ hzl.out.symm rd3.out (by omega)).mono ?_
    rintro e w4 ⟨v, rfl, o4, hE4⟩
    obtain ⟨A4, c4, rfl, rd4, hc4, -⟩ := o4.rd
    clear o4
    obtain ⟨hu1, hu2, hu3⟩ := uniq_strict (ne := neS) swo_S neS_iff totS _ zs rfl hss.out
    have hul := uniq_len neS zs
    rw [hzl.out] at hul
    obtain ⟨us, hus⟩ : ∃ l, l = uniq neS zs := ⟨_, rfl⟩
    rw [← hus] at hu1 hu2 hu3 hul rd4 hc4 ⊢
    clear hus
    obtain ⟨un, hun⟩ : ∃ l, l = us.length := ⟨_, rfl⟩
    rw [← hun] at hul hc4 ⊢
    replace hu1 := hide hu1
    replace hu2 := hide hu2
    replace hu3 := hide hu3
    replace hun := hide hun
    replace rd4 := hide rd4
    have hE24 := hE3.trans (hE4.mono hE3.size)
    replace rd2 := hide (rd2.out.ext hE24)
    replace hcs := hide ((hE24.cell (p := ⟨w.heap.size, 0, none⟩) hs2).trans hcs.out)
    have hs4 : w.heap.size < w4.heap.size := Nat.lt_of_lt_of_le hs2 hE24.size
    have hE04 := hE2.trans (hE24.mono hE2.size)
    clear hE24 hE2 hE3 hE4 rd3 hs1 hs2
    go_wp2
    go_loopw [31] (fun i wr => ∃ k : Nat, k ≤ un ∧ i = .int .i64 k ∧ Hid (Keys wr w4.heap.size (us.take k)) ∧ Below w4.heap.size w4 wr) (fun i _ => un - (intOf i).toNat)
    case atStart => exact ⟨0, Nat.zero_le _, rfl, hide (keys_new w4), (Below.refl _ _).alloc (Nat.le_refl _) _⟩
    case round =>
      obtain ⟨k, hk, rfl, hks, hB⟩ := hrel
      obtain ⟨hcc, hff⟩ := bcell hB
      have hsz := hB.size
      obtain ⟨wo, rfl⟩ : ∃ wo : World, wo = wr := ⟨_, rfl⟩
      by_cases hlt : k < un
      · obtain ⟨b, off, rfl, hra⟩ := rd4.out.at_ (i := k) (by rw [← hun.out]; exact hlt)
        have hb1 := hra.1
        obtain ⟨p, hx⟩ := get_some (xs := us) (i := k) (by rw [← hun.out]; exact hlt)
        have hx1 := hra.str hx
        have hnew : Hid (p ∉ us.take k) := hide (fun hm => by
          obtain ⟨j, hj⟩ := List.getElem?_of_mem hm
          rw [List.getElem?_take] at hj
          split at hj
          · obtain ⟨h4, e4⟩ := List.getElem?_eq_some_iff.1 hj
            obtain ⟨h5, e5⟩ := List.getElem?_eq_some_iff.1 hx
            have := List.pairwise_iff_getElem.1 hu1.out j k h4 h5 (by omega)
            rw [e4, e5, swo_S.irr] at this
            cases this
          · cases hj)
        replace hx := hide hx
        replace hra := hide hra
        have hAl : Below w4.heap.size w4 (wo.alloc (.cells #[.string p] 9)) := hB.alloc hsz _
        go_wp2_with (first | (at_lookup; refine wpList_lookS (k := 9) (e := 4) _ rfl (.tmp 35) (.tmp 36) rfl (by kernel_rfl) (by kernel_rfl) (zero_boolT _) rfl rfl (hks.out.alloc _) hnew.out ?_) | (at_mapUpdate; refine wpList_putS (k := 9) (e := 4) _ rfl (.tmp 38) (.tmp 39) (.const (.bool true)) rfl (by kernel_rfl) (by kernel_rfl) rfl rfl (hks.out.alloc _) hnew.out hAl (Nat.le_refl _) ?_; intro w6 hk6 hB6 hs6 hh6) | fail)
        have hmb := hks.out.lt
        simp only [World.size_alloc] at hs6
        have hbx : w6.cell? ⟨wo.heap.size, 0, none⟩ = some (.string p) := (cell_of_heap (hh6 wo.heap.size (by omega)) 0).trans (by simp)
        have hks6 : Hid (Keys w6 w4.heap.size (us.take (k + 1))) := hide (by rw [take_snoc hx.out]; exact hk6)
        clear hk6 hh6 hks hAl
        have hw6 : wo.heap.size < w6.heap.size := by omega
        have hsz6 : w4.heap.size ≤ w6.heap.size := by omega
        refine (found_Str (some ⟨b, off, none⟩) un c4 29 #[.pointer (some ⟨wo.heap.size, 0, none⟩)] (fun y => cmpS y p) us _ hun.out ((rd4.out.below hB6).more hsz6) (by omega) ⟨fun args W => by simp [callFunc, show Try.prog.funcs[29]? = some Try.f29 from by kernel_rfl]; rfl, fun p1 W hW => wordsAsk1_any p1 p _ wo.heap.size W ((hW.cell (p := ⟨wo.heap.size, 0, none⟩) hw6).trans hbx) (by have := hW.size; omega) rfl⟩).mono ?_
        rintro e w7 ⟨kk, hbt, rfl, hE7⟩
        have hkk := between_at hu1.out hx.out hbt
        subst hkk
        rw [found_at hx.out]
        clear hbt
        have hbx7 : w7.cell? ⟨wo.heap.size, 0, none⟩ = some (.string p) := (hE7.cell (p := ⟨wo.heap.size, 0, none⟩) hw6).trans hbx
        have hks7 := hide (hks6.out.ext hE7)
        have hB7 := hB6.trans (hE7.mono hsz6)
        have hs7 : wo.heap.size < w7.heap.size := by have := hE7.size; omega
        clear hbx hks6 hB6 hE7 hcc hff
        obtain ⟨hc7, hf7⟩ := bcell hB7
        have hb7 : b < w7.heap.size := by have := hB7.size; omega
        have hki : (kk : Int) < (un : Int) := by omega
        go_wp2
        refine wp_region_reads [(0, true), (1, true), (2, true), (3, true), (4, true), (5, true), (6, true), (7, true), (8, true), (9, true)] (by kernel_rfl) (by kernel_rfl) (by kernel_rfl) (by kernel_rfl) (fun _ _ d _ _ h => by cases d <;> exact h) ?_
        iterate 3
          apply mix_q rfl rfl
          · intro W hW
            subst hW
            go_simp
            try exact rfl
          simp only [Act.put, List.setIfInBounds_toArray, List.set_cons_zero, List.set_cons_succ]
        iterate 6
          apply mix_on rfl (wanted_is rfl rfl rfl rfl rfl)
          · intro W hW
            subst hW
            go_simp
            try exact rfl
          simp only [Act.put, List.setIfInBounds_toArray, List.set_cons_zero, List.set_cons_succ]
        iterate 1
          apply mix_q rfl rfl
          · intro W hW
            subst hW
            go_simp
            try exact rfl
          simp only [Act.put, List.setIfInBounds_toArray, List.set_cons_zero, List.set_cons_succ]
        refine mix_nil ?_
        go_wp2
        refine ⟨?_, ?_⟩
        · first
            | exact ⟨kk + 1, by omega, by go_num, hks7, hB7.drew⟩
            | ((repeat apply Exists.intro); exact ⟨⟨kk + 1, by omega, by go_num, hks7, hB7.drew⟩, rfl⟩)
        · first | (simp [intOf, lenV]; omega) | (simp [intOf]; omega)
      · have hEo : Ext w4 wo := hB
        have rd4o := hide (rd4.out.ext hEo)
        have rd2o := hide (rd2.out.ext hEo)
        have hcso : wo.cell? ⟨w.heap.size, 0, none⟩ = some (.string s) := (hEo.cell (p := ⟨w.heap.size, 0, none⟩) hs4).trans hcs.out
        have hso : w.heap.size < wo.heap.size := Nat.lt_of_lt_of_le hs4 hsz
        go_wp2_with fail
        clear hcc hff hks hlt hk
        refine (found_Str A4 un c4 30 #[.pointer (some ⟨w.heap.size, 0, none⟩)] (fun y => cmpS y s) us _ hun.out rd4o.out (by omega) ⟨fun args W => by simp [callFunc, show Try.prog.funcs[30]? = some Try.f30 from by kernel_rfl]; rfl, fun p1 W hW => wordsAsk2_any p1 s _ w.heap.size W ((hW.cell (p := ⟨w.heap.size, 0, none⟩) hso).trans hcso) (Nat.lt_of_lt_of_le hso hW.size) rfl⟩).mono ?_
        rintro e w7 ⟨kk, hbt, rfl, hE7⟩
        have hfm := found_mem hu1.out hbt
        obtain ⟨tb, htb⟩ : ∃ b, b = foundB (fun y => cmpS y s) us kk := ⟨_, rfl⟩
        rw [← htb] at hfm ⊢
        replace hfm := hide (show (tb = true) = (s ∈ l4) from propext (hfm.trans ((hu2.out s).trans (hzm.out s))))
        clear htb hbt
        go_wp2_with fail
        refine (least_Str A2 m c2 l4 _ hm.out (rd2o.out.ext hE7) (by omega)).mono ?_
        rintro e w8 ⟨rfl, hE8⟩
        have hEo8 := hE7.trans (hE8.mono hE7.size)
        have rd4p := hide (rd4o.out.ext hEo8)
        have rd2p := hide (rd2o.out.ext hEo8)
        have hcsp : w8.cell? ⟨w.heap.size, 0, none⟩ = some (.string s) := (hEo8.cell (p := ⟨w.heap.size, 0, none⟩) hso).trans hcso
        have hsp : w.heap.size < w8.heap.size := Nat.lt_of_lt_of_le hso hEo8.size
        have hE48 := hEo.trans (hEo8.mono hEo.size)
        have hE08 := hE04.trans (hE48.mono hE04.size)
        have hssu := hide (show srt ltS us from hu1.out.imp (fun {a b} h => swo_S.asym h))
        clear rd4o rd2o hcso hso hE7 hE8 hEo8 hEo hE48
        obtain ⟨lt, hlt⟩ : ∃ l, l = leastTo ltS l4 m := ⟨_, rfl⟩
        rw [← hlt]
        by_cases hm0 : m = 0
        · subst hm0
          go_wp2
          refine wp_region_mix (fun W => Ext w8 W) [(0, true), (1, true), (2, true), (3, false), (4, true), (5, true), (6, true), (7, false), (8, true), (9, true), (10, true), (11, true), (12, true), (13, true), (14, true), (15, true), (16, true), (17, true), (18, true), (19, true), (20, true), (21, true), (22, true), (23, true), (24, true), (25, true), (26, true), (27, true), (28, true), (29, true), (30, true)] (by kernel_rfl) (by kernel_rfl) (by kernel_rfl) (by kernel_rfl) (fun _ _ d _ _ h => by cases d <;> exact h) ?_ ?_
          · exact (Below.refl _ _).drew
          iterate 3
            apply mix_q rfl rfl
            · intro W hW
              have hcW := (bcell hW).1
              go_simp
              try exact rfl
            simp only [Act.put, List.setIfInBounds_toArray, List.set_cons_zero, List.set_cons_succ]
          refine mix_w rfl rfl (fun K hK => ?_)
          go_simp
          refine (contains_str A2 _ c2 l4 s w8.drew hm.out rd2p.out.drew (by omega)).mono ?_
          rintro e w9 ⟨tb', rfl, htb', hE9⟩
          obtain rfl : tb' = tb := by
            have : (tb' = true) = (tb = true) := htb'.out.trans hfm.out.symm
            cases tb <;> cases tb' <;> simp_all
          have hE89 : Ext w8 w9 := (Below.refl _ _).drew.trans hE9
          refine hK _ _ hE89 ?_
          clear hK K
          try simp only [Act.put, List.setIfInBounds_toArray, List.set_cons_zero, List.set_cons_succ]
          iterate 2
            apply mix_q rfl rfl
            · intro W hW
              have hcW := (bcell hW).1
              go_simp
              try exact rfl
            simp only [Act.put, List.setIfInBounds_toArray, List.set_cons_zero, List.set_cons_succ]
          iterate 1
            apply mix_on rfl (wanted_is rfl rfl rfl rfl rfl)
            · intro W hW
              have hcW := (bcell hW).1
              go_simp
              try exact rfl
            simp only [Act.put, List.setIfInBounds_toArray, List.set_cons_zero, List.set_cons_succ]
          refine mix_won rfl (wanted_is rfl rfl rfl rfl rfl) (fun K hK => ?_)
          go_simp
          refine (isSorted_str A4 un c4 us w9 hun.out (rd4p.out.ext hE89) (by omega) hssu.out).mono ?_
          rintro e w10 ⟨rfl, hE10⟩
          have hE810 : Ext w8 w10 := hE89.trans (hE10.mono hE89.size)
          refine hK _ _ hE810 ?_
          clear hK K
          try simp only [Act.put, List.setIfInBounds_toArray, List.set_cons_zero, List.set_cons_succ]
          iterate 2
            apply mix_q rfl rfl
            · intro W hW
              have hcW := (bcell hW).1
              go_simp
              try exact rfl
            simp only [Act.put, List.setIfInBounds_toArray, List.set_cons_zero, List.set_cons_succ]
          iterate 5
            apply mix_on rfl (wanted_is rfl rfl rfl rfl rfl)
            · intro W hW
              have hcW := (bcell hW).1
              go_simp
              try exact rfl
            simp only [Act.put, List.setIfInBounds_toArray, List.set_cons_zero, List.set_cons_succ]
          iterate 2
            apply mix_q rfl rfl
            · intro W hW
              have hcW := (bcell hW).1
              go_simp
              try exact rfl
            simp only [Act.put, List.setIfInBounds_toArray, List.set_cons_zero, List.set_cons_succ]
          iterate 3
            apply mix_on rfl (wanted_is rfl rfl rfl rfl rfl)
            · intro W hW
              have hcW := (bcell hW).1
              go_simp
              try exact rfl
            simp only [Act.put, List.setIfInBounds_toArray, List.set_cons_zero, List.set_cons_succ]
          iterate 8
            refine mix_off rfl (wanted_is rfl rfl rfl rfl rfl) ?_
            simp only [Act.put, List.setIfInBounds_toArray, List.set_cons_zero, List.set_cons_succ]
          iterate 1
            apply mix_on rfl (wanted_is rfl rfl rfl rfl rfl)
            · intro W hW
              have hcW := (bcell hW).1
              go_simp
              try exact rfl
            simp only [Act.put, List.setIfInBounds_toArray, List.set_cons_zero, List.set_cons_succ]
          iterate 2
            apply mix_q rfl rfl
            · intro W hW
              have hcW := (bcell hW).1
              go_simp
              try exact rfl
            simp only [Act.put, List.setIfInBounds_toArray, List.set_cons_zero, List.set_cons_succ]
          refine mix_nil ?_
          go_wp2
          go_ret
          exact ⟨rfl, hE08.trans (hE810.mono hE08.size)⟩
        · have hdm : decide (0 < m) = true := by simpa using Nat.pos_of_ne_zero hm0
          rw [hdm]
          have hmi : (0 : Int) < (m : Int) := by omega
          have hm1 : 0 < m := by omega
          obtain ⟨x, hx, hmin⟩ := leastTo_min swo_S l4 m (by omega) (by rw [← hm.out]; exact Nat.le_refl _)
          rw [← hlt] at hx
          rw [hm.out, List.take_length] at hmin
          obtain ⟨z, hz⟩ := get_some (xs := zs) (i := 0) (by rw [hzl.out]; omega)
          have hzmin := srt_head swo_S hss.out hz
          have hz' : us[0]? = some z := hu3.out.trans hz
          obtain rfl : x = z := totS x z (hzmin x ((hzm.out x).2 (List.mem_of_getElem? hx))) (hmin z ((hzm.out z).1 (List.mem_of_getElem? hz)))
          have hlm : lt < m := by have := (List.getElem?_eq_some_iff.1 hx).1; rw [← hm.out] at this; exact this
          have hun0 : 0 < un := by have := (List.getElem?_eq_some_iff.1 hz').1; rw [← hun.out] at this; exact this
          have hun1 : (0 : Int) < (un : Int) := by omega
          have hlmi : (lt : Int) < (m : Int) := by omega
          obtain ⟨b4, off4, rfl, hr4⟩ := rd4p.out.at_ (i := 0) (by rw [← hun.out]; exact hun0)
          have hb4 := hr4.1
          have hx4 := hr4.str0 hz'
          obtain ⟨b2, off2, rfl, hr2⟩ := rd2p.out.at_ (i := lt) (by rw [← hm.out]; exact hlm)
          have hb2 := hr2.1
          have hx2 := hr2.str hx
          replace hx := hide hx
          replace hz := hide hz
          replace hz' := hide hz'
          replace hr4 := hide hr4
          replace hr2 := hide hr2
          replace hlt := hide hlt
          clear hmin hzmin hdm hm0
          go_wp2
          refine wp_region_mix (fun W => Ext w8 W) [(0, true), (1, true), (2, true), (3, false), (4, true), (5, true), (6, true), (7, false), (8, true), (9, true), (10, true), (11, true), (12, true), (13, true), (14, true), (15, true), (16, true), (17, true), (18, true), (19, true), (20, true), (21, true), (22, true), (23, true), (24, true), (25, true), (26, true), (27, true), (28, true), (29, true), (30, true)] (by kernel_rfl) (by kernel_rfl) (by kernel_rfl) (by kernel_rfl) (fun _ _ d _ _ h => by cases d <;> exact h) ?_ ?_
          · exact (Below.refl _ _).drew
          iterate 3
            apply mix_q rfl rfl
            · intro W hW
              have hcW := (bcell hW).1
              go_simp
              try exact rfl
            simp only [Act.put, List.setIfInBounds_toArray, List.set_cons_zero, List.set_cons_succ]
          refine mix_w rfl rfl (fun K hK => ?_)
          go_simp
          refine (contains_str (some ⟨b2, off2, none⟩) _ c2 l4 s w8.drew hm.out rd2p.out.drew (by omega)).mono ?_
          rintro e w9 ⟨tb', rfl, htb', hE9⟩
          obtain rfl : tb' = tb := by
            have : (tb' = true) = (tb = true) := htb'.out.trans hfm.out.symm
            cases tb <;> cases tb' <;> simp_all
          have hE89 : Ext w8 w9 := (Below.refl _ _).drew.trans hE9
          refine hK _ _ hE89 ?_
          clear hK K
          try simp only [Act.put, List.setIfInBounds_toArray, List.set_cons_zero, List.set_cons_succ]
          iterate 2
            apply mix_q rfl rfl
            · intro W hW
              have hcW := (bcell hW).1
              go_simp
              try exact rfl
            simp only [Act.put, List.setIfInBounds_toArray, List.set_cons_zero, List.set_cons_succ]
          iterate 1
            apply mix_on rfl (wanted_is rfl rfl rfl rfl rfl)
            · intro W hW
              have hcW := (bcell hW).1
              go_simp
              try exact rfl
            simp only [Act.put, List.setIfInBounds_toArray, List.set_cons_zero, List.set_cons_succ]
          refine mix_won rfl (wanted_is rfl rfl rfl rfl rfl) (fun K hK => ?_)
          go_simp
          refine (isSorted_str (some ⟨b4, off4, none⟩) un c4 us w9 hun.out (rd4p.out.ext hE89) (by omega) hssu.out).mono ?_
          rintro e w10 ⟨rfl, hE10⟩
          have hE810 : Ext w8 w10 := hE89.trans (hE10.mono hE89.size)
          refine hK _ _ hE810 ?_
          clear hK K
          try simp only [Act.put, List.setIfInBounds_toArray, List.set_cons_zero, List.set_cons_succ]
          iterate 2
            apply mix_q rfl rfl
            · intro W hW
              have hcW := (bcell hW).1
              go_simp
              try exact rfl
            simp only [Act.put, List.setIfInBounds_toArray, List.set_cons_zero, List.set_cons_succ]
          iterate 5
            apply mix_on rfl (wanted_is rfl rfl rfl rfl rfl)
            · intro W hW
              have hcW := (bcell hW).1
              go_simp
              try exact rfl
            simp only [Act.put, List.setIfInBounds_toArray, List.set_cons_zero, List.set_cons_succ]
          iterate 2
            apply mix_q rfl rfl
            · intro W hW
              have hcW := (bcell hW).1
              go_simp
              try exact rfl
            simp only [Act.put, List.setIfInBounds_toArray, List.set_cons_zero, List.set_cons_succ]
          iterate 3
            apply mix_on rfl (wanted_is rfl rfl rfl rfl rfl)
            · intro W hW
              have hcW := (bcell hW).1
              go_simp
              try exact rfl
            simp only [Act.put, List.setIfInBounds_toArray, List.set_cons_zero, List.set_cons_succ]
          iterate 8
            apply mix_on rfl (wanted_is rfl rfl rfl rfl rfl)
            · intro W hW
              have hcW := (bcell hW).1
              go_simp
              try exact rfl
            simp only [Act.put, List.setIfInBounds_toArray, List.set_cons_zero, List.set_cons_succ]
          iterate 1
            apply mix_on rfl (wanted_is rfl rfl rfl rfl rfl)
            · intro W hW
              have hcW := (bcell hW).1
              go_simp
              try exact rfl
            simp only [Act.put, List.setIfInBounds_toArray, List.set_cons_zero, List.set_cons_succ]
          iterate 2
            apply mix_q rfl rfl
            · intro W hW
              have hcW := (bcell hW).1
              go_simp
              try exact rfl
            simp only [Act.put, List.setIfInBounds_toArray, List.set_cons_zero, List.set_cons_succ]
          refine mix_nil ?_
          go_wp2
          go_ret
          exact ⟨rfl, hE08.trans (hE810.mono hE08.size)⟩
end Go.Proofs.Ytecfceabioajkaa
