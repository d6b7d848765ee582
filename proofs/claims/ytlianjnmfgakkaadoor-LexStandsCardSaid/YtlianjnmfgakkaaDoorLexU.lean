/- LexStands' walk. -/
import Derived.Test.YtlianjnmfgakkaaDoorLexV
import Derived.Test.YtlianjnmfgakkaaDoorLexY
import Derived.Test.YtlianjnmfgakkaaDoorLexD
import Derived.Test.YtlianjnmfgakkaaDoorLxS
import Derived.Test.YtlianjnmfgakkaaDoorShelfS02
namespace Go.Proofs.YtlianjnmfgakkaaDoor
open Go.RowKit Go.Shelf

theorem trim_any (u : ByteArray) (hu : u.size ≤ 1000000) (w : World) : Calls Tryd.prog 21 #[.string u, .string ⟨#[32, 9]⟩] w fun e w' => e = .returned (.string (tmS u)) ∧ Ext w w' :=
  Tryd.strings_Trim_laid u ⟨#[32, 9]⟩ w (by omega) (by decide) (ascii_of_all (by decide))
theorem left_any (u : ByteArray) (w : World) : Calls Tryd.prog 23 #[.string u, .string ⟨#[32, 9]⟩] w fun e w' => e = .returned (.string (tlS u)) ∧ Ext w w' :=
  Tryd.strings_TrimLeft_laid u ⟨#[32, 9]⟩ w (by decide) (ascii_of_all (by decide))
theorem hasPrefix_any (u p : ByteArray) (w : World) : Calls Tryd.prog 22 #[.string u, .string p] w fun e w' => e = .returned (.bool (Lib.hasPrefix u.data.toList p.data.toList)) ∧ w' = w :=
  Tryd.strings_HasPrefix u p w
theorem has_ten (u : ByteArray) (w : World) : Calls Tryd.prog 24 #[.string u, .string ⟨#[10]⟩] w fun e w' => e = .returned (.bool (decide (0 ≤ Lib.indexByte u.data.toList 10))) ∧ w' = w :=
  Tryd.strings_Contains_one u 10 w
theorem not_empty {u : ByteArray} (h : u ≠ ⟨#[]⟩) : ¬ u.toList = [] ∧ u.toList.isEmpty = false ∧ (u.toList == []) = false := by
  have h1 : ¬ u.toList = [] := fun e => h (by
    rw [toList_data'] at e
    exact ByteArray.ext (Array.toList_inj.1 e))
  refine ⟨h1, ?_, ?_⟩
  · cases hl : u.toList with
    | nil => exact absurd hl h1
    | cons _ _ => rfl
  · cases hl : u.toList with
    | nil => exact absurd hl h1
    | cons _ _ => rfl
set_option maxRecDepth 100000 in
set_option maxHeartbeats 16000000 in
theorem lexStands_any (s1 : ByteArray) (w : World) (hm1 : s1.size ≤ maxLen) (hU : LaidU w) :
    Calls Tryd.prog 8 #[.string s1] w fun e w' => e = .returned (.bool true) ∧ Ext w w' := by
  have hcut1 := cut_any s1 hm1
  have hza := cutN_size s1
  obtain ⟨s, ha⟩ : ∃ a, a = cutN s1 := ⟨_, rfl⟩
  rw [← ha] at hcut1 hza
  replace ha := hide ha
  have hA := all_any s (by omega)
  have hla := all_len s
  obtain ⟨wa1, wa2, wa3⟩ := run_wrong s 0 (Nat.zero_le _)
  obtain ⟨RA, hRA⟩ : ∃ R, R = allN s := ⟨_, rfl⟩
  have hR0 : Hid ((runN s 0).1 = RA.1 ∧ (runN s 0).2.2 = RA.2.2) := hide ⟨by rw [hRA]; rfl, by rw [hRA]; rfl⟩
  rw [show runN s 0 = RA from hRA.symm] at wa1 wa2 wa3
  rw [← hRA] at hA hla
  clear hRA
  obtain ⟨l, pa, ea⟩ := RA
  simp only at hA hla wa1 wa2 wa3 hR0
  replace hA := hide hA
  replace hU := hide hU
  replace hcut1 := hide hcut1
  replace wa1 := hide wa1
  replace wa2 := hide wa2
  replace wa3 := hide wa3
  go_enter Tryd.func8, Tryd.ntmps8
  go_wp2_with fail
  refine (wakes_any _ hU.out).mono ?_
  rintro e w1 ⟨rfl, hE1⟩
  go_wp2_with fail
  refine (hcut1.out _).mono ?_
  rintro e w2 ⟨rfl, hw⟩
  rw [hw]
  clear hw
  go_wp2_with fail
  refine (hA.out _ (hU.out.ext hE1)).mono ?_
  rintro e wz ⟨A1, n1, c1, rfl, hO1, hE2⟩
  have hE12 := hE1.trans (hE2.mono hE1.size)
  obtain ⟨A', c', hv, hr1, -, -⟩ := hO1.rd
  injection hv with hv1 hv2 hv3
  subst hv1 hv2 hv3
  clear hO1 hE1 hE2 hA hcut1
  replace hr1 := hide hr1
  replace hU := hide (hU.out.ext hE12)
  by_cases ha0 : ea = 0
  · subst ha0
    obtain rfl : pa = s.size := wa2.out rfl
    obtain ⟨n, hn⟩ : ∃ n, n = l.length := ⟨_, rfl⟩
    rw [← hn] at hla ⊢
    replace hn := hide hn
    clear wa1 wa2 wa3
    go_wp2
    go_loopw [6, 45] (fun a i wr => ∃ (k p : Nat), k ≤ n ∧ p ≤ s.size ∧ i = .int .i64 (k : Int) ∧ a = .int .i64 (p : Int) ∧ Hid ((runN s p).1 = l.drop k ∧ (runN s p).2.2 = 0 ∧ (k = 0 → p = 0)) ∧ Ext wz wr) (fun _ i _ => n - (intOf i).toNat)
    case atStart => exact ⟨0, 0, Nat.zero_le _, Nat.zero_le _, rfl, rfl, hide ⟨hR0.out.1, hR0.out.2, fun _ => rfl⟩, Below.refl _ _⟩
    case round =>
      obtain ⟨k, p, hk, hps, rfl, rfl, hR, hB⟩ := hrel
      by_cases hlt : k < n
      · have hlt' : (k : Int) < (n : Int) := by omega
        obtain ⟨bk, off, rfl, ra⟩ := hr1.out.at_ (i := k) (by rw [← hn.out]; exact hlt)
        obtain ⟨x, hx⟩ := get_some (xs := l) (i := k) (by rw [← hn.out]; exact hlt)
        have hdr : l.drop k = x :: l.drop (k + 1) := by
          rw [List.drop_eq_getElem_cons (by rw [← hn.out]; exact hlt)]
          congr 1
          exact (List.getElem?_eq_some_iff.1 hx).2
        obtain ⟨q, e1, hT, hR1, hR2⟩ := run_cons hps hR.out.2.1 (hR.out.1.trans hdr)
        have hR2 : Hid ((runN s e1).1 = l.drop (k + 1) ∧ (runN s e1).2.2 = 0 ∧ (k + 1 = 0 → e1 = 0)) := hide ⟨hR1, hR2, fun h => absurd h (by omega)⟩
        have hok := hT.ok
        have hword := hok.word
        have hfeed := hok.feed
        have hgap := gap_how hT hps
        have hglue := glue_at hT
        have hpl := hT.pl
        have hge := hT.ge
        have hqe := hT.lt
        have hle := hT.le
        have htext := hT.text
        have hpos := hok.pos
        obtain ⟨kd, pl, tx, gl⟩ := x
        simp only at hword hfeed hgap hglue hpl htext hpos
        subst hpl
        have hkd0 := hok.kind
        simp only at hkd0
        obtain ⟨x1, x2, x3, x4⟩ := (ra.ext hB).tok hx
        have hbk := Nat.lt_of_lt_of_le ra.1 hB.size
        have htz : tx.size = e1 - q := by rw [htext, ByteArray.size_extract]; omega
        have v1 : IntKind.i64.wrap ((q : Int) + (tx.size : Int)) = (e1 : Int) := by rw [IntWalk.i64_in _ (by omega)]; omega
        have v2 : ¬ (q : Int) < (p : Int) := by omega
        have v3 : ¬ (s.size : Int) < (e1 : Int) := by omega
        have v4 : (p : Int) ≤ (q : Int) := by omega
        have v5 : (q : Int) ≤ (s.size : Int) := by omega
        have v6 : (q : Int) ≤ (e1 : Int) := by omega
        have v7 : (e1 : Int) ≤ (s.size : Int) := by omega
        have hex := htext.symm
        have hgz : (s.extract p q).size ≤ 1000000 := by rw [ByteArray.size_extract]; omega
        obtain ⟨ne1, ne2, ne3⟩ := not_empty (u := tx) (fun h => by rw [h] at hpos; exact absurd hpos (by decide))
        replace htz : tx.size ≤ maxLen := Nat.le_trans (show tx.size ≤ 1500 by omega) (by decide)
        clear htext hpos hge hqe hle
        replace hgap := hide hgap
        replace hglue := hide hglue
        replace hword := hide hword
        replace hfeed := hide hfeed
        replace hkd0 := hide hkd0
        replace hT := hide hT
        replace hok := hide hok
        replace hR1 := hide hR1
        replace hdr := hide hdr
        replace hx := hide hx
        replace ra := hide ra
        by_cases h4 : kd = 4
        · subst h4
          have hten : tx = ⟨#[10]⟩ := of_decide_eq_true (hfeed.out.symm.trans (decide_eq_true rfl))
          subst hten
          have hglf : gl = false := by
            rcases hkd0.out with ⟨_, _, h⟩ | ⟨h, _⟩ | ⟨h, _⟩ | ⟨h, _⟩
            · exact h
            all_goals cases h
          subst hglf
          have v1' : IntKind.i64.wrap ((q : Int) + 1) = (e1 : Int) := v1
          obtain ⟨wb, hwb⟩ : ∃ x, x = wr.alloc (.cells #[.int .i64 4, .int .i64 (q : Int), .string ⟨#[10]⟩, .bool false] 29) := ⟨_, rfl⟩
          have X8 : BoxN wb wr.heap.size 29 #[.int .i64 4, .int .i64 (q : Int), .string ⟨#[10]⟩, .bool false] := by rw [hwb]; exact BoxN.new _ _ _
          have hB2 : Ext wz wb := by rw [hwb]; exact hB.alloc hB.size _
          go_upto_region 11 with fail
          rw [← hwb]
          obtain ⟨p8, hp8⟩ : ∃ b, b = wr.heap.size := ⟨_, rfl⟩
          rw [← hp8] at X8 ⊢
          clear hwb hB hp8 x1 x2 x3 x4 hbk
          have s8 := X8.lt
          have y80 := X8.cell 0 (v := .int .i64 4) rfl
          have y81 := X8.cell 1 (v := .int .i64 (q : Int)) rfl
          have y82 := X8.cell 2 (v := .string ⟨#[10]⟩) rfl
          have y83 := X8.cell 3 (v := .bool false) rfl
          refine wp_region_reads [(0, true), (1, true), (2, true), (3, true), (4, true), (5, true), (6, true), (7, true), (8, true), (9, true), (10, true), (11, true), (12, true), (13, true), (14, true), (15, true), (16, true), (17, true), (18, true), (19, true), (20, true), (21, true), (22, true), (23, true), (24, true), (25, true), (26, true), (27, true), (28, true), (29, true), (30, true), (31, true), (32, true), (33, true), (34, true), (35, true), (36, true), (37, true), (38, true), (39, true), (40, true), (41, true), (42, true), (43, true), (44, true), (45, true), (46, true), (47, true), (48, true)] (by kernel_rfl) (by kernel_rfl) (by kernel_rfl) (by kernel_rfl) (fun _ _ d _ _ h => by cases d <;> exact h) ?_
          iterate 5
            apply mix_q rfl rfl
            · intro W hW
              subst hW
              go_simp
              try exact rfl
            simp only [Act.put, List.setIfInBounds_toArray, List.set_cons_zero, List.set_cons_succ]
          iterate 9
            apply mix_on rfl (wanted_is rfl rfl rfl rfl rfl)
            · intro W hW
              subst hW
              go_simp
              try exact rfl
            simp only [Act.put, List.setIfInBounds_toArray, List.set_cons_zero, List.set_cons_succ]
          iterate 2
            apply mix_q rfl rfl
            · intro W hW
              subst hW
              go_simp
              try exact rfl
            simp only [Act.put, List.setIfInBounds_toArray, List.set_cons_zero, List.set_cons_succ]
          iterate 13
            apply mix_on rfl (wanted_is rfl rfl rfl rfl rfl)
            · intro W hW
              subst hW
              go_simp
              try exact rfl
            simp only [Act.put, List.setIfInBounds_toArray, List.set_cons_zero, List.set_cons_succ]
          iterate 2
            apply mix_q rfl rfl
            · intro W hW
              subst hW
              go_simp
              try exact rfl
            simp only [Act.put, List.setIfInBounds_toArray, List.set_cons_zero, List.set_cons_succ]
          iterate 3
            apply mix_on rfl (wanted_is rfl rfl rfl rfl rfl)
            · intro W hW
              subst hW
              go_simp
              try exact rfl
            simp only [Act.put, List.setIfInBounds_toArray, List.set_cons_zero, List.set_cons_succ]
          iterate 2
            apply mix_q rfl rfl
            · intro W hW
              subst hW
              go_simp
              try exact rfl
            simp only [Act.put, List.setIfInBounds_toArray, List.set_cons_zero, List.set_cons_succ]
          iterate 3
            apply mix_on rfl (wanted_is rfl rfl rfl rfl rfl)
            · intro W hW
              subst hW
              go_simp
              try exact rfl
            simp only [Act.put, List.setIfInBounds_toArray, List.set_cons_zero, List.set_cons_succ]
          iterate 8
            refine mix_off rfl (wanted_is rfl rfl rfl rfl rfl) ?_
            simp only [Act.put, List.setIfInBounds_toArray, List.set_cons_zero, List.set_cons_succ]
          iterate 1
            apply mix_on rfl (wanted_is rfl rfl rfl rfl rfl)
            · intro W hW
              subst hW
              go_simp
              try exact rfl
            simp only [Act.put, List.setIfInBounds_toArray, List.set_cons_zero, List.set_cons_succ]
          iterate 1
            apply mix_q rfl rfl
            · intro W hW
              subst hW
              go_simp
              try exact rfl
            simp only [Act.put, List.setIfInBounds_toArray, List.set_cons_zero, List.set_cons_succ]
          refine mix_nil ?_
          clear s8 y80 y81 y82 y83
          replace X8 := X8.drew
          replace hB2 := hB2.drew
          obtain ⟨wd, hwd⟩ : ∃ x, x = wb.drew := ⟨_, rfl⟩
          rw [← hwd] at X8 hB2 ⊢
          clear hwd
          have s8 := X8.lt
          have y80 := X8.cell 0 (v := .int .i64 4) rfl
          have y81 := X8.cell 1 (v := .int .i64 (q : Int)) rfl
          have y82 := X8.cell 2 (v := .string ⟨#[10]⟩) rfl
          have y83 := X8.cell 3 (v := .bool false) rfl
          go_wp2_with fail
          refine (trim_any _ hgz _).mono ?_
          rintro e w5 ⟨rfl, hE5⟩
          replace X8 := X8.ext hE5
          replace hB2 := hB2.trans (hE5.mono hB2.size)
          clear s8 y80 y81 y82 y83 hE5
          have s8 := X8.lt
          have y80 := X8.cell 0 (v := .int .i64 4) rfl
          have y81 := X8.cell 1 (v := .int .i64 (q : Int)) rfl
          have y82 := X8.cell 2 (v := .string ⟨#[10]⟩) rfl
          have y83 := X8.cell 3 (v := .bool false) rfl
          by_cases he : tmS (s.extract p q) = ⟨#[]⟩
          · rw [he]
            have hwf : wordB ⟨#[10]⟩ = false := hword.out.symm
            go_upto_region 15 with fail
            refine wp_region_mix (fun W => Below w5.heap.size w5 W) [(0, true), (1, true), (2, true), (3, true), (4, true), (5, false), (6, true), (7, true), (8, true), (9, true), (10, true), (11, true), (12, true), (13, true), (14, true), (15, true)] (by kernel_rfl) (by kernel_rfl) (by kernel_rfl) (by kernel_rfl) (fun _ _ d _ _ h => by cases d <;> exact h) ?_ ?_
            · exact (Below.refl _ _).drew
            iterate 5
              apply mix_q rfl rfl
              · intro W hW
                have hcW := (bcell hW).1
                go_simp
                try exact rfl
              simp only [Act.put, List.setIfInBounds_toArray, List.set_cons_zero, List.set_cons_succ]
            refine mix_w rfl rfl (fun K hK => ?_)
            go_simp
            refine (word_any _ _ htz (hU.out.ext hB2.drew)).mono ?_
            rintro e w7 ⟨rfl, hE7⟩
            rw [hwf]
            refine hK _ _ ((Below.refl _ _).drew.trans hE7) ?_
            clear hK K
            try simp only [Act.put, List.setIfInBounds_toArray, List.set_cons_zero, List.set_cons_succ]
            iterate 2
              apply mix_q rfl rfl
              · intro W hW
                have hcW := (bcell hW).1
                go_simp
                try exact rfl
              simp only [Act.put, List.setIfInBounds_toArray, List.set_cons_zero, List.set_cons_succ]
            iterate 7
              apply mix_on rfl (wanted_is rfl rfl rfl rfl rfl)
              · intro W hW
                have hcW := (bcell hW).1
                go_simp
                try exact rfl
              simp only [Act.put, List.setIfInBounds_toArray, List.set_cons_zero, List.set_cons_succ]
            iterate 1
              apply mix_q rfl rfl
              · intro W hW
                have hcW := (bcell hW).1
                go_simp
                try exact rfl
              simp only [Act.put, List.setIfInBounds_toArray, List.set_cons_zero, List.set_cons_succ]
            refine mix_nil ?_
            replace X8 := X8.ext ((Below.refl w5.heap.size w5).drew.trans hE7)
            replace hB2 := hB2.trans (((Below.refl w5.heap.size w5).drew.trans hE7).mono hB2.size)
            clear hE7 s8 y80 y81 y82 y83
            have s8 := X8.lt
            have y80 := X8.cell 0 (v := .int .i64 4) rfl
            have y81 := X8.cell 1 (v := .int .i64 (q : Int)) rfl
            have y82 := X8.cell 2 (v := .string ⟨#[10]⟩) rfl
            have y83 := X8.cell 3 (v := .bool false) rfl
            replace X8 := hide X8
            go_wp2
            refine ⟨?_, ?_⟩
            · first
                | exact ⟨k + 1, e1, by omega, by omega, by go_num, rfl, hR2, hB2⟩
                | ((repeat apply Exists.intro); exact ⟨⟨k + 1, e1, by omega, by omega, by go_num, rfl, hR2, hB2⟩, rfl⟩)
            · first | (simp [intOf, lenV]; omega) | (simp [intOf]; omega) | (simp [intOf]; done)
          · obtain ⟨_, hpf⟩ := hgap.out.resolve_left he
            obtain ⟨ta, tb, tc⟩ := not_empty he
            obtain ⟨T, hT2⟩ : ∃ T, T = tmS (s.extract p q) := ⟨_, rfl⟩
            rw [← hT2] at he ta tb tc ⊢
            replace hT2 := hide hT2
            go_wp2_with fail
            refine (left_any _ _).mono ?_
            rintro e w6 ⟨rfl, hE6⟩
            replace X8 := X8.ext hE6
            replace hB2 := hB2.trans (hE6.mono hB2.size)
            clear s8 y80 y81 y82 y83 hE6
            have s8 := X8.lt
            have y80 := X8.cell 0 (v := .int .i64 4) rfl
            have y81 := X8.cell 1 (v := .int .i64 (q : Int)) rfl
            have y82 := X8.cell 2 (v := .string ⟨#[10]⟩) rfl
            have y83 := X8.cell 3 (v := .bool false) rfl
            go_wp2_with fail
            refine (hasPrefix_any _ _ _).mono ?_
            rintro e w7 ⟨rfl, hw⟩
            rw [hw, hpf]
            clear hw
            have hwf : wordB ⟨#[10]⟩ = false := hword.out.symm
            go_upto_region 15 with fail
            refine wp_region_mix (fun W => Below w6.heap.size w6 W) [(0, true), (1, true), (2, true), (3, true), (4, true), (5, false), (6, true), (7, true), (8, true), (9, true), (10, true), (11, true), (12, true), (13, true), (14, true), (15, true)] (by kernel_rfl) (by kernel_rfl) (by kernel_rfl) (by kernel_rfl) (fun _ _ d _ _ h => by cases d <;> exact h) ?_ ?_
            · exact (Below.refl _ _).drew
            iterate 5
              apply mix_q rfl rfl
              · intro W hW
                have hcW := (bcell hW).1
                go_simp
                try exact rfl
              simp only [Act.put, List.setIfInBounds_toArray, List.set_cons_zero, List.set_cons_succ]
            refine mix_w rfl rfl (fun K hK => ?_)
            go_simp
            refine (word_any _ _ htz (hU.out.ext hB2.drew)).mono ?_
            rintro e w7 ⟨rfl, hE7⟩
            rw [hwf]
            refine hK _ _ ((Below.refl _ _).drew.trans hE7) ?_
            clear hK K
            try simp only [Act.put, List.setIfInBounds_toArray, List.set_cons_zero, List.set_cons_succ]
            iterate 2
              apply mix_q rfl rfl
              · intro W hW
                have hcW := (bcell hW).1
                go_simp
                try exact rfl
              simp only [Act.put, List.setIfInBounds_toArray, List.set_cons_zero, List.set_cons_succ]
            iterate 7
              apply mix_on rfl (wanted_is rfl rfl rfl rfl rfl)
              · intro W hW
                have hcW := (bcell hW).1
                go_simp
                try exact rfl
              simp only [Act.put, List.setIfInBounds_toArray, List.set_cons_zero, List.set_cons_succ]
            iterate 1
              apply mix_q rfl rfl
              · intro W hW
                have hcW := (bcell hW).1
                go_simp
                try exact rfl
              simp only [Act.put, List.setIfInBounds_toArray, List.set_cons_zero, List.set_cons_succ]
            refine mix_nil ?_
            replace X8 := X8.ext ((Below.refl w6.heap.size w6).drew.trans hE7)
            replace hB2 := hB2.trans (((Below.refl w6.heap.size w6).drew.trans hE7).mono hB2.size)
            clear hE7 s8 y80 y81 y82 y83
            have s8 := X8.lt
            have y80 := X8.cell 0 (v := .int .i64 4) rfl
            have y81 := X8.cell 1 (v := .int .i64 (q : Int)) rfl
            have y82 := X8.cell 2 (v := .string ⟨#[10]⟩) rfl
            have y83 := X8.cell 3 (v := .bool false) rfl
            replace X8 := hide X8
            go_wp2
            refine ⟨?_, ?_⟩
            · first
                | exact ⟨k + 1, e1, by omega, by omega, by go_num, rfl, hR2, hB2⟩
                | ((repeat apply Exists.intro); exact ⟨⟨k + 1, e1, by omega, by omega, by go_num, rfl, hR2, hB2⟩, rfl⟩)
            · first | (simp [intOf, lenV]; omega) | (simp [intOf]; omega) | (simp [intOf]; done)
        · have he : tmS (s.extract p q) = ⟨#[]⟩ := hgap.out.resolve_right (fun h => h4 h.1)
          have hnt : tx ≠ ⟨#[10]⟩ := fun h => by
            have := hfeed.out
            rw [decide_eq_false h4, decide_eq_true h] at this
            cases this
          have nt1 : ¬ tx.toList = [10] := fun h => hnt (by
            rw [toList_data'] at h
            exact ByteArray.ext (Array.toList_inj.1 h))
          have nt2 : (tx.toList == [10]) = false := beq_eq_false_iff_ne.2 nt1
          have e4 : (kd == 4) = false := beq_eq_false_iff_ne.2 h4
          obtain ⟨wb1, hwb1⟩ : ∃ b, b = wordB tx := ⟨_, rfl⟩
          have hk1 : (kd == 1) = wb1 := by
            rw [hwb1, ← hword.out, Bool.eq_iff_iff, beq_iff_eq, decide_eq_true_iff]
          have hwf := hwb1.symm
          replace hwf := hide hwf
          replace hwb1 := hide hwb1
          replace h4 := hide h4
          replace hnt := hide hnt
          replace he := hide he
          cases gl with
          | false =>
            obtain ⟨wb, hwb⟩ : ∃ x, x = wr.alloc (.cells #[.int .i64 kd, .int .i64 (q : Int), .string tx, .bool false] 29) := ⟨_, rfl⟩
            have X8 : BoxN wb wr.heap.size 29 #[.int .i64 kd, .int .i64 (q : Int), .string tx, .bool false] := by rw [hwb]; exact BoxN.new _ _ _
            have hB2 : Ext wz wb := by rw [hwb]; exact hB.alloc hB.size _
            go_upto_region 11 with fail
            rw [← hwb]
            obtain ⟨p8, hp8⟩ : ∃ b, b = wr.heap.size := ⟨_, rfl⟩
            rw [← hp8] at X8 ⊢
            clear hwb hB hp8 x1 x2 x3 x4 hbk
            have s8 := X8.lt
            have y80 := X8.cell 0 (v := .int .i64 kd) rfl
            have y81 := X8.cell 1 (v := .int .i64 (q : Int)) rfl
            have y82 := X8.cell 2 (v := .string tx) rfl
            have y83 := X8.cell 3 (v := .bool false) rfl
            refine wp_region_reads [(0, true), (1, true), (2, true), (3, true), (4, true), (5, true), (6, true), (7, true), (8, true), (9, true), (10, true), (11, true), (12, true), (13, true), (14, true), (15, true), (16, true), (17, true), (18, true), (19, true), (20, true), (21, true), (22, true), (23, true), (24, true), (25, true), (26, true), (27, true), (28, true), (29, true), (30, true), (31, true), (32, true), (33, true), (34, true), (35, true), (36, true), (37, true), (38, true), (39, true), (40, true), (41, true), (42, true), (43, true), (44, true), (45, true), (46, true), (47, true), (48, true)] (by kernel_rfl) (by kernel_rfl) (by kernel_rfl) (by kernel_rfl) (fun _ _ d _ _ h => by cases d <;> exact h) ?_
            iterate 5
              apply mix_q rfl rfl
              · intro W hW
                subst hW
                go_simp
                try exact rfl
              simp only [Act.put, List.setIfInBounds_toArray, List.set_cons_zero, List.set_cons_succ]
            iterate 9
              apply mix_on rfl (wanted_is rfl rfl rfl rfl rfl)
              · intro W hW
                subst hW
                go_simp
                try exact rfl
              simp only [Act.put, List.setIfInBounds_toArray, List.set_cons_zero, List.set_cons_succ]
            iterate 2
              apply mix_q rfl rfl
              · intro W hW
                subst hW
                go_simp
                try exact rfl
              simp only [Act.put, List.setIfInBounds_toArray, List.set_cons_zero, List.set_cons_succ]
            iterate 13
              apply mix_on rfl (wanted_is rfl rfl rfl rfl rfl)
              · intro W hW
                subst hW
                go_simp
                try exact rfl
              simp only [Act.put, List.setIfInBounds_toArray, List.set_cons_zero, List.set_cons_succ]
            iterate 2
              apply mix_q rfl rfl
              · intro W hW
                subst hW
                go_simp
                try exact rfl
              simp only [Act.put, List.setIfInBounds_toArray, List.set_cons_zero, List.set_cons_succ]
            iterate 3
              apply mix_on rfl (wanted_is rfl rfl rfl rfl rfl)
              · intro W hW
                subst hW
                go_simp
                try exact rfl
              simp only [Act.put, List.setIfInBounds_toArray, List.set_cons_zero, List.set_cons_succ]
            iterate 2
              apply mix_q rfl rfl
              · intro W hW
                subst hW
                go_simp
                try exact rfl
              simp only [Act.put, List.setIfInBounds_toArray, List.set_cons_zero, List.set_cons_succ]
            iterate 3
              apply mix_on rfl (wanted_is rfl rfl rfl rfl rfl)
              · intro W hW
                subst hW
                go_simp
                try exact rfl
              simp only [Act.put, List.setIfInBounds_toArray, List.set_cons_zero, List.set_cons_succ]
            iterate 8
              refine mix_off rfl (wanted_is rfl rfl rfl rfl rfl) ?_
              simp only [Act.put, List.setIfInBounds_toArray, List.set_cons_zero, List.set_cons_succ]
            iterate 1
              apply mix_on rfl (wanted_is rfl rfl rfl rfl rfl)
              · intro W hW
                subst hW
                go_simp
                try exact rfl
              simp only [Act.put, List.setIfInBounds_toArray, List.set_cons_zero, List.set_cons_succ]
            iterate 1
              apply mix_q rfl rfl
              · intro W hW
                subst hW
                go_simp
                try exact rfl
              simp only [Act.put, List.setIfInBounds_toArray, List.set_cons_zero, List.set_cons_succ]
            refine mix_nil ?_
            clear s8 y80 y81 y82 y83
            replace X8 := X8.drew
            replace hB2 := hB2.drew
            obtain ⟨wd, hwd⟩ : ∃ x, x = wb.drew := ⟨_, rfl⟩
            rw [← hwd] at X8 hB2 ⊢
            clear hwd
            have s8 := X8.lt
            have y80 := X8.cell 0 (v := .int .i64 kd) rfl
            have y81 := X8.cell 1 (v := .int .i64 (q : Int)) rfl
            have y82 := X8.cell 2 (v := .string tx) rfl
            have y83 := X8.cell 3 (v := .bool false) rfl
            go_wp2_with fail
            refine (trim_any _ hgz _).mono ?_
            rintro e w5 ⟨rfl, hE5⟩
            replace X8 := X8.ext hE5
            replace hB2 := hB2.trans (hE5.mono hB2.size)
            clear s8 y80 y81 y82 y83 hE5
            have s8 := X8.lt
            have y80 := X8.cell 0 (v := .int .i64 kd) rfl
            have y81 := X8.cell 1 (v := .int .i64 (q : Int)) rfl
            have y82 := X8.cell 2 (v := .string tx) rfl
            have y83 := X8.cell 3 (v := .bool false) rfl
            rw [he.out]
            go_upto_region 15 with fail
            refine wp_region_mix (fun W => Below w5.heap.size w5 W) [(0, true), (1, true), (2, true), (3, true), (4, true), (5, false), (6, true), (7, true), (8, true), (9, true), (10, true), (11, true), (12, true), (13, true), (14, true), (15, true)] (by kernel_rfl) (by kernel_rfl) (by kernel_rfl) (by kernel_rfl) (fun _ _ d _ _ h => by cases d <;> exact h) ?_ ?_
            · exact (Below.refl _ _).drew
            iterate 5
              apply mix_q rfl rfl
              · intro W hW
                have hcW := (bcell hW).1
                go_simp
                try exact rfl
              simp only [Act.put, List.setIfInBounds_toArray, List.set_cons_zero, List.set_cons_succ]
            refine mix_w rfl rfl (fun K hK => ?_)
            go_simp
            refine (word_any _ _ htz (hU.out.ext hB2.drew)).mono ?_
            rintro e w7 ⟨rfl, hE7⟩
            rw [hwf.out]
            refine hK _ _ ((Below.refl _ _).drew.trans hE7) ?_
            clear hK K
            try simp only [Act.put, List.setIfInBounds_toArray, List.set_cons_zero, List.set_cons_succ]
            iterate 2
              apply mix_q rfl rfl
              · intro W hW
                have hcW := (bcell hW).1
                go_simp
                try exact rfl
              simp only [Act.put, List.setIfInBounds_toArray, List.set_cons_zero, List.set_cons_succ]
            iterate 7
              apply mix_on rfl (wanted_is rfl rfl rfl rfl rfl)
              · intro W hW
                have hcW := (bcell hW).1
                go_simp
                try exact rfl
              simp only [Act.put, List.setIfInBounds_toArray, List.set_cons_zero, List.set_cons_succ]
            iterate 1
              apply mix_q rfl rfl
              · intro W hW
                have hcW := (bcell hW).1
                go_simp
                try exact rfl
              simp only [Act.put, List.setIfInBounds_toArray, List.set_cons_zero, List.set_cons_succ]
            refine mix_nil ?_
            replace X8 := X8.ext ((Below.refl w5.heap.size w5).drew.trans hE7)
            replace hB2 := hB2.trans (((Below.refl w5.heap.size w5).drew.trans hE7).mono hB2.size)
            clear hE7 s8 y80 y81 y82 y83
            have s8 := X8.lt
            have y80 := X8.cell 0 (v := .int .i64 kd) rfl
            have y81 := X8.cell 1 (v := .int .i64 (q : Int)) rfl
            have y82 := X8.cell 2 (v := .string tx) rfl
            have y83 := X8.cell 3 (v := .bool false) rfl
            replace X8 := hide X8
            go_wp2
            refine ⟨?_, ?_⟩
            · first
                | exact ⟨k + 1, e1, by omega, by omega, by go_num, rfl, hR2, hB2⟩
                | ((repeat apply Exists.intro); exact ⟨⟨k + 1, e1, by omega, by omega, by go_num, rfl, hR2, hB2⟩, rfl⟩)
            · first | (simp [intOf, lenV]; omega) | (simp [intOf]; omega) | (simp [intOf]; done)
          | true =>
            obtain ⟨hqp, hp0⟩ := hglue.out rfl
            have hqb : ((q : Int) == (p : Int)) = true := by rw [hqp]; simp
            have hqb' : ((q : Int) != (p : Int)) = false := by rw [hqp]; simp
            replace hqp := hide hqp
            have hk0 : k ≠ 0 := fun h => by
              have := hR.out.2.2 h
              omega
            have hk0' : ¬ (k : Int) = 0 := by omega
            have hk0b : ((k : Int) == 0) = false := beq_eq_false_iff_ne.2 hk0'
            replace hk0 := hide hk0
            obtain ⟨wb, hwb⟩ : ∃ x, x = wr.alloc (.cells #[.int .i64 kd, .int .i64 (q : Int), .string tx, .bool true] 29) := ⟨_, rfl⟩
            have X8 : BoxN wb wr.heap.size 29 #[.int .i64 kd, .int .i64 (q : Int), .string tx, .bool true] := by rw [hwb]; exact BoxN.new _ _ _
            have hB2 : Ext wz wb := by rw [hwb]; exact hB.alloc hB.size _
            go_upto_region 11 with fail
            rw [← hwb]
            obtain ⟨p8, hp8⟩ : ∃ b, b = wr.heap.size := ⟨_, rfl⟩
            rw [← hp8] at X8 ⊢
            clear hwb hB hp8 x1 x2 x3 x4 hbk
            have s8 := X8.lt
            have y80 := X8.cell 0 (v := .int .i64 kd) rfl
            have y81 := X8.cell 1 (v := .int .i64 (q : Int)) rfl
            have y82 := X8.cell 2 (v := .string tx) rfl
            have y83 := X8.cell 3 (v := .bool true) rfl
            refine wp_region_reads [(0, true), (1, true), (2, true), (3, true), (4, true), (5, true), (6, true), (7, true), (8, true), (9, true), (10, true), (11, true), (12, true), (13, true), (14, true), (15, true), (16, true), (17, true), (18, true), (19, true), (20, true), (21, true), (22, true), (23, true), (24, true), (25, true), (26, true), (27, true), (28, true), (29, true), (30, true), (31, true), (32, true), (33, true), (34, true), (35, true), (36, true), (37, true), (38, true), (39, true), (40, true), (41, true), (42, true), (43, true), (44, true), (45, true), (46, true), (47, true), (48, true)] (by kernel_rfl) (by kernel_rfl) (by kernel_rfl) (by kernel_rfl) (fun _ _ d _ _ h => by cases d <;> exact h) ?_
            iterate 5
              apply mix_q rfl rfl
              · intro W hW
                subst hW
                go_simp
                try exact rfl
              simp only [Act.put, List.setIfInBounds_toArray, List.set_cons_zero, List.set_cons_succ]
            iterate 9
              apply mix_on rfl (wanted_is rfl rfl rfl rfl rfl)
              · intro W hW
                subst hW
                go_simp
                try exact rfl
              simp only [Act.put, List.setIfInBounds_toArray, List.set_cons_zero, List.set_cons_succ]
            iterate 2
              apply mix_q rfl rfl
              · intro W hW
                subst hW
                go_simp
                try exact rfl
              simp only [Act.put, List.setIfInBounds_toArray, List.set_cons_zero, List.set_cons_succ]
            iterate 13
              apply mix_on rfl (wanted_is rfl rfl rfl rfl rfl)
              · intro W hW
                subst hW
                go_simp
                try exact rfl
              simp only [Act.put, List.setIfInBounds_toArray, List.set_cons_zero, List.set_cons_succ]
            iterate 2
              apply mix_q rfl rfl
              · intro W hW
                subst hW
                go_simp
                try exact rfl
              simp only [Act.put, List.setIfInBounds_toArray, List.set_cons_zero, List.set_cons_succ]
            iterate 3
              apply mix_on rfl (wanted_is rfl rfl rfl rfl rfl)
              · intro W hW
                subst hW
                go_simp
                try exact rfl
              simp only [Act.put, List.setIfInBounds_toArray, List.set_cons_zero, List.set_cons_succ]
            iterate 2
              apply mix_q rfl rfl
              · intro W hW
                subst hW
                go_simp
                try exact rfl
              simp only [Act.put, List.setIfInBounds_toArray, List.set_cons_zero, List.set_cons_succ]
            iterate 3
              apply mix_on rfl (wanted_is rfl rfl rfl rfl rfl)
              · intro W hW
                subst hW
                go_simp
                try exact rfl
              simp only [Act.put, List.setIfInBounds_toArray, List.set_cons_zero, List.set_cons_succ]
            iterate 8
              apply mix_on rfl (wanted_is rfl rfl rfl rfl rfl)
              · intro W hW
                subst hW
                go_simp
                try exact rfl
              simp only [Act.put, List.setIfInBounds_toArray, List.set_cons_zero, List.set_cons_succ]
            iterate 1
              apply mix_on rfl (wanted_is rfl rfl rfl rfl rfl)
              · intro W hW
                subst hW
                go_simp
                try exact rfl
              simp only [Act.put, List.setIfInBounds_toArray, List.set_cons_zero, List.set_cons_succ]
            iterate 1
              apply mix_q rfl rfl
              · intro W hW
                subst hW
                go_simp
                try exact rfl
              simp only [Act.put, List.setIfInBounds_toArray, List.set_cons_zero, List.set_cons_succ]
            refine mix_nil ?_
            clear s8 y80 y81 y82 y83
            replace X8 := X8.drew
            replace hB2 := hB2.drew
            obtain ⟨wd, hwd⟩ : ∃ x, x = wb.drew := ⟨_, rfl⟩
            rw [← hwd] at X8 hB2 ⊢
            clear hwd
            have s8 := X8.lt
            have y80 := X8.cell 0 (v := .int .i64 kd) rfl
            have y81 := X8.cell 1 (v := .int .i64 (q : Int)) rfl
            have y82 := X8.cell 2 (v := .string tx) rfl
            have y83 := X8.cell 3 (v := .bool true) rfl
            go_wp2_with fail
            refine (trim_any _ hgz _).mono ?_
            rintro e w5 ⟨rfl, hE5⟩
            replace X8 := X8.ext hE5
            replace hB2 := hB2.trans (hE5.mono hB2.size)
            clear s8 y80 y81 y82 y83 hE5
            have s8 := X8.lt
            have y80 := X8.cell 0 (v := .int .i64 kd) rfl
            have y81 := X8.cell 1 (v := .int .i64 (q : Int)) rfl
            have y82 := X8.cell 2 (v := .string tx) rfl
            have y83 := X8.cell 3 (v := .bool true) rfl
            rw [he.out]
            go_upto_region 15 with fail
            refine wp_region_mix (fun W => Below w5.heap.size w5 W) [(0, true), (1, true), (2, true), (3, true), (4, true), (5, false), (6, true), (7, true), (8, true), (9, true), (10, true), (11, true), (12, true), (13, true), (14, true), (15, true)] (by kernel_rfl) (by kernel_rfl) (by kernel_rfl) (by kernel_rfl) (fun _ _ d _ _ h => by cases d <;> exact h) ?_ ?_
            · exact (Below.refl _ _).drew
            iterate 5
              apply mix_q rfl rfl
              · intro W hW
                have hcW := (bcell hW).1
                go_simp
                try exact rfl
              simp only [Act.put, List.setIfInBounds_toArray, List.set_cons_zero, List.set_cons_succ]
            refine mix_w rfl rfl (fun K hK => ?_)
            go_simp
            refine (word_any _ _ htz (hU.out.ext hB2.drew)).mono ?_
            rintro e w7 ⟨rfl, hE7⟩
            rw [hwf.out]
            refine hK _ _ ((Below.refl _ _).drew.trans hE7) ?_
            clear hK K
            try simp only [Act.put, List.setIfInBounds_toArray, List.set_cons_zero, List.set_cons_succ]
            iterate 2
              apply mix_q rfl rfl
              · intro W hW
                have hcW := (bcell hW).1
                go_simp
                try exact rfl
              simp only [Act.put, List.setIfInBounds_toArray, List.set_cons_zero, List.set_cons_succ]
            iterate 7
              apply mix_on rfl (wanted_is rfl rfl rfl rfl rfl)
              · intro W hW
                have hcW := (bcell hW).1
                go_simp
                try exact rfl
              simp only [Act.put, List.setIfInBounds_toArray, List.set_cons_zero, List.set_cons_succ]
            iterate 1
              apply mix_q rfl rfl
              · intro W hW
                have hcW := (bcell hW).1
                go_simp
                try exact rfl
              simp only [Act.put, List.setIfInBounds_toArray, List.set_cons_zero, List.set_cons_succ]
            refine mix_nil ?_
            replace X8 := X8.ext ((Below.refl w5.heap.size w5).drew.trans hE7)
            replace hB2 := hB2.trans (((Below.refl w5.heap.size w5).drew.trans hE7).mono hB2.size)
            clear hE7 s8 y80 y81 y82 y83
            have s8 := X8.lt
            have y80 := X8.cell 0 (v := .int .i64 kd) rfl
            have y81 := X8.cell 1 (v := .int .i64 (q : Int)) rfl
            have y82 := X8.cell 2 (v := .string tx) rfl
            have y83 := X8.cell 3 (v := .bool true) rfl
            replace X8 := hide X8
            go_wp2
            refine ⟨?_, ?_⟩
            · first
                | exact ⟨k + 1, e1, by omega, by omega, by go_num, rfl, hR2, hB2⟩
                | ((repeat apply Exists.intro); exact ⟨⟨k + 1, e1, by omega, by omega, by go_num, rfl, hR2, hB2⟩, rfl⟩)
            · first | (simp [intOf, lenV]; omega) | (simp [intOf]; omega) | (simp [intOf]; done)
      · have hlt' : ¬ (k : Int) < (n : Int) := by omega
        have hrest := rest_how hps (run_done hps hR.out.2.1 (hR.out.1.trans (List.drop_of_length_le (by rw [← hn.out]; omega))))
        have v1 : (p : Int) ≤ (s.size : Int) := by omega
        replace hR := hide hR
        replace hrest := hide hrest
        have hBE := hE12.trans (hB.mono hE12.size)
        go_wp2_with fail
        refine (left_any _ _).mono ?_
        rintro e w6 ⟨rfl, hE6⟩
        have hBE2 := hBE.trans (hE6.mono hBE.size)
        clear hBE hE6 hB
        by_cases he : tlS (s.extract p s.size) = ⟨#[]⟩
        · rw [he]
          go_wp2
          go_ret
          exact ⟨by first | rfl | simp, hBE2⟩
        · obtain ⟨⟨hz, h35⟩, hno⟩ := hrest.out.resolve_left he
          obtain ⟨ta, tb, tc⟩ := not_empty he
          obtain ⟨R, hR2⟩ : ∃ R, R = tlS (s.extract p s.size) := ⟨_, rfl⟩
          rw [← hR2] at he ta tb tc hno ⊢
          have h35' : ∀ h, (R[0]'h).toNat = 35 := by rw [hR2]; exact h35
          have hz' : 0 < R.size := by rw [hR2]; exact hz
          have hz2 : (0 : Int) < (R.size : Int) := by omega
          replace hR2 := hide hR2
          clear h35 hz
          go_wp2_with fail
          refine (has_ten _ _).mono ?_
          rintro e w7 ⟨rfl, hw⟩
          rw [hw, hno]
          clear hw
          go_wp2
          go_ret
          exact ⟨by first | rfl | simp, hBE2⟩
  · obtain ⟨hpa, hl⟩ := wa3.out ha0
    subst hl
    have v1 : (pa : Int) < (s.size : Int) := by omega
    have v2 : (0 : Int) ≤ (pa : Int) := by omega
    have hwa := wa1.out
    clear wa1 wa2 wa3 hR0
    rcases hwa with rfl | rfl | h
    · go_wp2
      go_ret
      exact ⟨by first | rfl | simp, hE12⟩
    · go_wp2
      go_ret
      exact ⟨by first | rfl | simp, hE12⟩
    · exact absurd h ha0
end Go.Proofs.YtlianjnmfgakkaaDoor
