/- NamesBack: the walk. -/
import Derived.Test.YtpfmbehhppbcnaaDoorNamBP
import Derived.Test.YtpfmbehhppbcnaaDoorNamY
namespace Go.Proofs.YtpfmbehhppbcnaaDoor
open Go.RowKit

set_option maxRecDepth 100000 in
set_option maxHeartbeats 8000000 in
theorem namesBack_any (A1 : Option Addr) (n1 c1 : Nat) (xs : List ByteArray) (s : ByteArray) (w : World) (hn1 : n1 = xs.length) (hc1 : n1 ≤ c1) (h1 : Rd strE w.heap.size w A1 xs) (hfx : ∀ x ∈ xs, x.size ≤ maxLen) (hms : s.size ≤ maxLen) (hL : LaidU w) :
    Calls Tryd.prog 7 #[.agg #[.slice A1 n1 c1], .string s] w fun e w' => e = .returned (.bool true) ∧ Ext w w' := by
  replace h1 := hide h1
  replace hn1 := hide hn1
  replace hL := hide hL
  go_enter Tryd.func7, Tryd.ntmps7
  go_upto_region 1 with fail
  obtain ⟨w0, hw0⟩ : ∃ x, x = w.alloc (.cells #[.slice A1 n1 c1] 27) := ⟨_, rfl⟩
  rw [← hw0]
  have hE0 : Ext w w0 := by rw [hw0]; exact (Below.refl _ _).alloc (Nat.le_refl _) _
  have X2 : Hid (Box w0 w.heap.size 27 (.slice A1 n1 c1)) := hide (by rw [hw0]; exact Box.new _ _ _)
  clear hw0
  obtain ⟨p2, hp2⟩ : ∃ b, b = w.heap.size := ⟨_, rfl⟩
  rw [← hp2] at X2 ⊢
  clear hp2
  go_wp2_with fail
  refine (wakes_any _ (hL.out.ext hE0)).mono ?_
  rintro e w1 ⟨rfl, hE1⟩
  have hB := hide (hE0.trans (hE1.mono hE0.size))
  replace X2 := hide (X2.out.ext hE1)
  clear hE0 hE1
  have k2 := X2.out.cell
  have s2 := X2.out.lt
  have hfa : ∀ x ∈ xs.take 301, x.size ≤ maxLen := fun x hx => hfx x (List.mem_of_mem_take hx)
  have hla : (xs.take 301).length ≤ 301 := by rw [List.length_take]; omega
  obtain ⟨a, ha⟩ : ∃ a, a = xs.take 301 := ⟨_, rfl⟩
  rw [← ha] at hfa hla
  replace ha := hide ha
  go_wp2_with fail
  refine (own_any A1 n1 c1 xs _ (h1.out.ext hB.out) hn1.out hc1).mono ?_
  rintro e w2 ⟨v, rfl, hO, hE⟩
  rw [← ha.out] at hO
  obtain ⟨A5, c5, rfl, r5, hc5, -⟩ := hO.rd
  obtain ⟨n5, e5⟩ : ∃ m, m = (List.length a) := ⟨_, rfl⟩
  rw [← e5] at hc5 ⊢
  replace r5 := hide r5
  replace e5 := hide e5
  clear hO
  replace hB := hide (hB.out.trans (hE.mono hB.out.size))
  clear hE k2 s2 X2
  have hl5 : n5 ≤ 1000000 := by have := e5.out; omega
  go_upto_region 4 with fail
  obtain ⟨w4, hw⟩ : ∃ x, x = w2.alloc (.cells #[.slice A5 n5 c5] 27) := ⟨_, rfl⟩
  rw [← hw]
  have hE : Ext w2 w4 := by rw [hw]; exact (Below.refl _ _).alloc (Nat.le_refl _) _
  have X5 : Hid (Box w4 w2.heap.size 27 (.slice A5 n5 c5)) := hide (by rw [hw]; exact Box.new _ _ _)
  clear hw
  obtain ⟨p5, hp5⟩ : ∃ b, b = w2.heap.size := ⟨_, rfl⟩
  rw [← hp5] at X5 ⊢
  clear hp5
  replace hB := hide (hB.out.trans (hE.mono hB.out.size))
  replace r5 := hide (r5.out.ext hE)
  clear hE
  replace hL := hide (hL.out.ext hB.out)
  clear h1
  have T : Ext w4 w4 := Below.refl _ _
  have k5 := (X5.out.ext T).cell
  have s5 := (X5.out.ext T).lt
  go_wp2_with fail
  refine (fine_any A5 n5 c5 a _ (r5.out.ext T) e5.out hl5 hfa (hL.out.ext T)).mono ?_
  rintro e w5 ⟨rfl, hE⟩
  replace T := T.trans (hE.mono T.size)
  clear hE
  clear k5 s5
  have k5 := (X5.out.ext T).cell
  have s5 := (X5.out.ext T).lt
  cases hf : fineB a with
  | false =>
    rw [finE_no hf]
    replace hf := hide hf
    have fb : Hid (foundB a s = false) := hide (by unfold foundB; rw [hf.out, Bool.and_false])
    have fn : Hid (foundN a s = 0) := hide (by unfold foundN; rw [fb.out]; rfl)
    go_wp2_with fail
    refine (find_any A5 n5 c5 a s _ (r5.out.ext T) e5.out hl5 hfa (hL.out.ext T)).mono ?_
    rintro e w6 ⟨rfl, hE⟩
    rw [fn.out, fb.out]
    replace T := T.trans (hE.mono T.size)
    clear hE
    go_wp2
    go_ret
    exact ⟨rfl, hB.out.trans (T.mono hB.out.size)⟩
  | true =>
    rw [finE_yes hf]
    have hal := allF_good hf
    have hal300 := (fine_parts hf).2.2
    replace hf := hide hf
    replace hal := hide hal
    go_wp2_with fail
    refine (all_any A5 n5 c5 a _ (r5.out.ext T) e5.out hl5 hfa (hL.out.ext T)).mono ?_
    rintro e w6 ⟨v, u, rfl, hO, hO2, hE⟩
    rw [hal.out] at hO hO2 ⊢
    replace hO : Own strE 9 _ w6 v a := hO
    replace hO2 : Own intE 3 _ w6 u (ints a.length) := hO2
    replace T := T.trans (hE.mono T.size)
    clear hE
    obtain ⟨A8, c8, rfl, r8, hc8, -⟩ := hO.rd
    obtain ⟨n8, e8⟩ : ∃ m, m = (List.length a) := ⟨_, rfl⟩
    rw [← e8] at hc8 ⊢
    replace r8 := hide r8
    replace e8 := hide e8
    clear hO
    have hO := hO2
    obtain ⟨A9, c9, rfl, r9, hc9, -⟩ := hO.rd
    obtain ⟨n9, e9⟩ : ∃ m, m = (List.length (ints a.length)) := ⟨_, rfl⟩
    rw [← e9] at hc9 ⊢
    replace r9 := hide r9
    replace e9 := hide e9
    clear hO
    clear hO2
    have g9 : n9 = n5 := by rw [e9.out, ints_len, e5.out]
    clear k5 s5
    have k5 := (X5.out.ext T).cell
    have s5 := (X5.out.ext T).lt
    go_upto_region 8 with fail
    obtain ⟨w7, hw⟩ : ∃ x, x = w6.alloc (.cells #[.slice A8 n8 c8] 27) := ⟨_, rfl⟩
    rw [← hw]
    have hE : Ext w6 w7 := by rw [hw]; exact (Below.refl _ _).alloc (Nat.le_refl _) _
    have X8 : Hid (Box w7 w6.heap.size 27 (.slice A8 n8 c8)) := hide (by rw [hw]; exact Box.new _ _ _)
    clear hw
    obtain ⟨p8, hp8⟩ : ∃ b, b = w6.heap.size := ⟨_, rfl⟩
    rw [← hp8] at X8 ⊢
    clear hp8
    replace r8 := hide (r8.out.ext hE)
    replace r9 := hide (r9.out.ext hE)
    replace T := T.trans (hE.mono T.size)
    clear hE
    have T7 : Ext w7 w7 := Below.refl _ _
    have k8 := X8.out.cell
    have s8 := X8.out.lt
    clear k5 s5
    have k5 := (X5.out.ext T).cell
    have s5 := (X5.out.ext T).lt
    go_wp2_with fail
    refine (equalS_any A8 A5 n8 c8 n5 c5 a a _ r8.out (r5.out.ext T) e8.out e5.out (by have := e8.out; have := e5.out; omega)).mono ?_
    rintro e w8 ⟨rfl, hE⟩
    replace T := T.trans (hE.mono T.size)
    replace r9 := hide (r9.out.ext hE)
    clear hE k8 s8 X8 r8 hc8 e8 T7
    clear k5 s5
    rw [show decide (a = a) = true from decide_eq_true rfl]
    have T8 := hide T
    go_wp2
    go_loopw [58] (fun i wr => ∃ m : Nat, m ≤ n9 ∧ i = .int .i64 m ∧ Ext w8 wr) (fun i _ => n9 - (intOf i).toNat)
    case atStart => exact ⟨0, Nat.zero_le _, rfl, Below.refl _ _⟩
    case round =>
      clear T
      obtain ⟨m, hm, rfl, T1⟩ := hrel
      have T := T8.out.trans (T1.mono T8.out.size)
      by_cases hmt : m < n9
      · have hmt' : (m : Int) < (n9 : Int) := by omega
        obtain ⟨bm, om, rfl, rm⟩ := (r9.out.ext T1).at_ (i := m) (by rw [← e9.out]; exact hmt)
        obtain ⟨z, hz⟩ := get_some (xs := ints a.length) (i := m) (by rw [← e9.out]; exact hmt)
        obtain rfl : z = (m : Int) := ints_get hz
        have hvc := rm.int hz
        have hbm := rm.1
        replace rm := hide rm
        replace hz := hide hz
        obtain ⟨u, hu⟩ := get_some (xs := a) (i := m) (by rw [← e5.out]; omega)
        have hua : u ∈ a := List.mem_of_getElem? hu
        have hmu := hfa u hua
        have y2 := nameE_in hf.out (i := (m : Int)) ⟨by omega, by rw [← e5.out]; omega⟩
        have y1 := nameS_in y2 hu
        have fb : foundB a u = true := by unfold foundB; rw [decide_eq_true hua, hf.out]; rfl
        have fn : foundN a u = (m : Int) := by unfold foundN; rw [if_pos fb, at_self (fine_nodup hf.out) hu]
        have hwu := (fine_parts hf.out).2.1 u hua
        replace hua := hide hua
        replace y1 := hide y1
        replace y2 := hide y2
        replace fb := hide fb
        replace fn := hide fn
        replace hwu := hide hwu
        replace hu := hide hu
        replace T1 := hide T1
        have k5 := (X5.out.ext T).cell
        have s5 := (X5.out.ext T).lt
        go_wp2_with fail
        refine (name_any A5 n5 c5 a (m : Int) _ (r5.out.ext T) e5.out hl5 hfa (hL.out.ext T)).mono ?_
        rintro e w9 ⟨rfl, hE⟩
        rw [y1.out, y2.out]
        replace T := T.trans (hE.mono T.size)
        replace T1 := hide (T1.out.trans (hE.mono T1.out.size))
        clear hE
        clear hvc hbm
        clear k5 s5
        have k5 := (X5.out.ext T).cell
        have s5 := (X5.out.ext T).lt
        go_wp2_with fail
        refine (find_any A5 n5 c5 a u _ (r5.out.ext T) e5.out hl5 hfa (hL.out.ext T)).mono ?_
        rintro e w10 ⟨rfl, hE⟩
        rw [fn.out, fb.out]
        replace T := T.trans (hE.mono T.size)
        replace T1 := hide (T1.out.trans (hE.mono T1.out.size))
        clear hE
        clear k5 s5
        go_wp2_with fail
        refine (checkN_any u _ hmu (hL.out.ext T)).mono ?_
        rintro e w11 ⟨rfl, hE⟩
        rw [chkN_word hwu.out]
        replace T := T.trans (hE.mono T.size)
        replace T1 := hide (T1.out.trans (hE.mono T1.out.size))
        clear hE
        go_wp2
        refine ⟨?_, ?_⟩
        · first
            | exact ⟨m + 1, by omega, by go_num, T1.out⟩
            | ((repeat apply Exists.intro); exact ⟨⟨m + 1, by omega, by go_num, T1.out⟩, rfl⟩)
        · first | (simp [intOf, lenV]; omega) | (simp [intOf]; omega) | (simp [intOf]; done)
      · have hmt' : ¬ (m : Int) < (n9 : Int) := by omega
        clear r9 hc9 hm T1 T8
        have k5 := (X5.out.ext T).cell
        have s5 := (X5.out.ext T).lt
        obtain ⟨b, hb⟩ : ∃ x, x = (putN a s).1 := ⟨_, rfl⟩
        obtain ⟨p, hp⟩ : ∃ x, x = (putN a s).2.1 := ⟨_, rfl⟩
        obtain ⟨z, hz⟩ : ∃ x, x = (putN a s).2.2 := ⟨_, rfl⟩
        have hput : putN a s = (b, p, z) := by rw [hb, hp, hz]
        clear hb hp hz
        replace hput := hide hput
        go_wp2_with fail
        refine (put_any A5 n5 c5 a s _ (r5.out.ext T) e5.out hl5 hfa hms (hL.out.ext T)).mono ?_
        rintro e w12 ⟨v, rfl, hO, hE⟩
        rw [hput.out] at hO ⊢
        replace hO : Own strE 9 _ w12 v b := hO
        replace T := T.trans (hE.mono T.size)
        clear hE
        obtain ⟨A17, c17, rfl, r17, hc17, -⟩ := hO.rd
        obtain ⟨n17, e17⟩ : ∃ m, m = (List.length b) := ⟨_, rfl⟩
        rw [← e17] at hc17 ⊢
        replace r17 := hide r17
        replace e17 := hide e17
        clear hO
        clear k5 s5
        go_upto_region 19 with fail
        obtain ⟨w13, hw⟩ : ∃ x, x = w12.alloc (.cells #[.slice A17 n17 c17] 27) := ⟨_, rfl⟩
        rw [← hw]
        have hE : Ext w12 w13 := by rw [hw]; exact (Below.refl _ _).alloc (Nat.le_refl _) _
        have X17 : Hid (Box w13 w12.heap.size 27 (.slice A17 n17 c17)) := hide (by rw [hw]; exact Box.new _ _ _)
        clear hw
        obtain ⟨p17, hp17⟩ : ∃ b, b = w12.heap.size := ⟨_, rfl⟩
        rw [← hp17] at X17 ⊢
        clear hp17
        replace r17 := hide (r17.out.ext hE)
        replace T := T.trans (hE.mono T.size)
        clear hE
        have k5 := (X5.out.ext T).cell
        have s5 := (X5.out.ext T).lt
        have k17 := X17.out.cell
        have s17 := X17.out.lt
        by_cases hz : z = 0
        · subst hz
          obtain ⟨q1, q2, q3, q4, q5, q6, q7⟩ := putN_ok hf.out hput.out
          have hfb : ∀ x ∈ b, x.size ≤ maxLen := fun x hx => by
            rcases q6 x hx with h | h
            · exact hfa x h
            · rw [h]; exact hms
          have hl17 : n17 ≤ 1000000 := by have := e17.out; have := (fine_parts q1).2.2; omega
          have fb : foundB b s = true := by unfold foundB; rw [decide_eq_true q2, q1]; rfl
          have fn : foundN b s = p := by unfold foundN; rw [if_pos fb, q3]
          have g17 : n5 ≤ n17 := by rw [e5.out, e17.out]; exact q5
          replace q1 := hide q1
          replace q2 := hide q2
          replace q3 := hide q3
          replace q4 := hide q4
          replace q5 := hide q5
          replace q6 := hide q6
          replace q7 := hide q7
          replace fb := hide fb
          replace fn := hide fn
          have T13 := hide (Below.refl w13.heap.size w13 : Ext w13 w13)
          clear k5 s5
          go_wp2_with fail
          refine (put_any A17 n17 c17 b s _ r17.out e17.out hl17 hfb hms (hL.out.ext T)).mono ?_
          rintro e w14 ⟨v, rfl, hO, hE⟩
          rw [q7.out] at hO ⊢
          replace hO : Own strE 9 _ w14 v b := hO
          replace T := T.trans (hE.mono T.size)
          replace r17 := hide (r17.out.ext hE)
          replace X17 := hide (X17.out.ext hE)
          clear hE k17 s17 T13
          obtain ⟨A19, c19, rfl, r19, hc19, -⟩ := hO.rd
          obtain ⟨n19, e19⟩ : ∃ m, m = (List.length b) := ⟨_, rfl⟩
          rw [← e19] at hc19 ⊢
          replace r19 := hide r19
          replace e19 := hide e19
          clear hO
          go_upto_region 22 with fail
          obtain ⟨w15, hw⟩ : ∃ x, x = w14.alloc (.cells #[.slice A19 n19 c19] 27) := ⟨_, rfl⟩
          rw [← hw]
          have hE : Ext w14 w15 := by rw [hw]; exact (Below.refl _ _).alloc (Nat.le_refl _) _
          have X19 : Hid (Box w15 w14.heap.size 27 (.slice A19 n19 c19)) := hide (by rw [hw]; exact Box.new _ _ _)
          clear hw
          obtain ⟨p19, hp19⟩ : ∃ b, b = w14.heap.size := ⟨_, rfl⟩
          rw [← hp19] at X19 ⊢
          clear hp19
          replace r17 := hide (r17.out.ext hE)
          replace r19 := hide (r19.out.ext hE)
          replace X17 := hide (X17.out.ext hE)
          replace T := T.trans (hE.mono T.size)
          clear hE
          have k17 := X17.out.cell
          have s17 := X17.out.lt
          go_wp2_with fail
          refine (find_any A17 n17 c17 b s _ r17.out e17.out hl17 hfb (hL.out.ext T)).mono ?_
          rintro e w16 ⟨rfl, hE⟩
          rw [fn.out, fb.out]
          replace T := T.trans (hE.mono T.size)
          replace r17 := hide (r17.out.ext hE)
          replace r19 := hide (r19.out.ext hE)
          replace X17 := hide (X17.out.ext hE)
          replace X19 := hide (X19.out.ext hE)
          clear hE k17 s17
          go_upto_region 23 with fail
          have T2 := hide T
          have g18 : n5 ≤ c17 := by omega
          have g18' : (n5 : Int) ≤ (c17 : Int) := by omega
          have r17t := hide (r17.out.take n5)
          rw [show b.take n5 = a from by rw [e5.out]; exact q4.out] at r17t
          have hl19 : n19 ≤ 1000000 := by have := e19.out; have := e17.out; omega
          have k5 := (X5.out.ext T).cell
          have s5 := (X5.out.ext T).lt
          have k17 := X17.out.cell
          have s17 := X17.out.lt
          have k19 := X19.out.cell
          have s19 := X19.out.lt
          clear T
          have T : Ext w16 w16.drew := (Below.refl _ _).drew
          refine wp_region_mix (fun W => Below w16.heap.size w16 W) [(0, true), (1, true), (2, true), (3, true), (4, true), (5, true), (6, true), (7, true), (8, true), (9, true), (10, true), (11, true), (12, true), (13, true), (14, true), (15, true), (16, true), (17, true), (18, true), (19, true), (20, false), (21, true), (22, true), (23, true), (24, false), (25, true), (26, true), (27, true), (28, true), (29, true), (30, true), (31, true), (32, true), (33, true), (34, true), (35, true), (36, false), (37, true), (38, true)] (by kernel_rfl) (by kernel_rfl) (by kernel_rfl) (by kernel_rfl) (fun _ _ d _ _ h => by cases d <;> exact h) ?_ ?_
          · exact T
          obtain ⟨wl, hwh⟩ : ∃ x, x = w16.drew := ⟨_, rfl⟩
          rw [← hwh] at T ⊢
          clear hwh
          iterate 3
            apply mix_q rfl rfl
            · intro W hW
              have hcW := (bcell hW).1
              go_simp
              try exact rfl
            simp only [Act.put, List.setIfInBounds_toArray, List.set_cons_zero, List.set_cons_succ]
          iterate 3
            apply mix_on rfl (wanted_is rfl rfl rfl rfl rfl)
            · intro W hW
              have hcW := (bcell hW).1
              go_simp
              try exact rfl
            simp only [Act.put, List.setIfInBounds_toArray, List.set_cons_zero, List.set_cons_succ]
          iterate 2
            apply mix_q rfl rfl
            · intro W hW
              have hcW := (bcell hW).1
              go_simp
              try exact rfl
            simp only [Act.put, List.setIfInBounds_toArray, List.set_cons_zero, List.set_cons_succ]
          iterate 1
            apply mix_on rfl (wanted_is rfl rfl rfl rfl rfl)
            · intro W hW
              have hcW := (bcell hW).1
              go_simp
              try exact rfl
            simp only [Act.put, List.setIfInBounds_toArray, List.set_cons_zero, List.set_cons_succ]
          iterate 2
            apply mix_q rfl rfl
            · intro W hW
              have hcW := (bcell hW).1
              go_simp
              try exact rfl
            simp only [Act.put, List.setIfInBounds_toArray, List.set_cons_zero, List.set_cons_succ]
          iterate 3
            apply mix_on rfl (wanted_is rfl rfl rfl rfl rfl)
            · intro W hW
              have hcW := (bcell hW).1
              go_simp
              try exact rfl
            simp only [Act.put, List.setIfInBounds_toArray, List.set_cons_zero, List.set_cons_succ]
          iterate 2
            apply mix_q rfl rfl
            · intro W hW
              have hcW := (bcell hW).1
              go_simp
              try exact rfl
            simp only [Act.put, List.setIfInBounds_toArray, List.set_cons_zero, List.set_cons_succ]
          iterate 4
            apply mix_on rfl (wanted_is rfl rfl rfl rfl rfl)
            · intro W hW
              have hcW := (bcell hW).1
              go_simp
              try exact rfl
            simp only [Act.put, List.setIfInBounds_toArray, List.set_cons_zero, List.set_cons_succ]
          refine mix_won rfl (wanted_is rfl rfl rfl rfl rfl) (fun K hK => ?_)
          go_simp
          refine (equalS_any A19 A17 n19 c19 n17 c17 b b _ (r19.out.ext T) (r17.out.ext T) e19.out e17.out hl19).mono ?_
          rintro e w17 ⟨rfl, hE⟩
          refine hK _ _ (T.trans (hE.mono T.size)) ?_
          clear hK K
          try simp only [Act.put, List.setIfInBounds_toArray, List.set_cons_zero, List.set_cons_succ]
          replace T := T.trans (hE.mono T.size)
          try rw [show decide (b = b) = true from decide_eq_true rfl]
          clear hE
          iterate 2
            apply mix_q rfl rfl
            · intro W hW
              have hcW := (bcell hW).1
              go_simp
              try exact rfl
            simp only [Act.put, List.setIfInBounds_toArray, List.set_cons_zero, List.set_cons_succ]
          iterate 1
            apply mix_on rfl (wanted_is rfl rfl rfl rfl rfl)
            · intro W hW
              have hcW := (bcell hW).1
              go_simp
              try exact rfl
            simp only [Act.put, List.setIfInBounds_toArray, List.set_cons_zero, List.set_cons_succ]
          refine mix_won rfl (wanted_is rfl rfl rfl rfl rfl) (fun K hK => ?_)
          go_simp
          refine (fine_any A17 n17 c17 b _ (r17.out.ext T) e17.out hl17 hfb (hL.out.ext (T2.out.trans (T.mono T2.out.size)))).mono ?_
          rintro e w18 ⟨rfl, hE⟩
          refine hK _ _ (T.trans (hE.mono T.size)) ?_
          clear hK K
          try simp only [Act.put, List.setIfInBounds_toArray, List.set_cons_zero, List.set_cons_succ]
          replace T := T.trans (hE.mono T.size)
          rw [finE_yes q1.out]
          clear hE
          iterate 1
            apply mix_on rfl (wanted_is rfl rfl rfl rfl rfl)
            · intro W hW
              have hcW := (bcell hW).1
              go_simp
              try exact rfl
            simp only [Act.put, List.setIfInBounds_toArray, List.set_cons_zero, List.set_cons_succ]
          iterate 2
            apply mix_q rfl rfl
            · intro W hW
              have hcW := (bcell hW).1
              go_simp
              try exact rfl
            simp only [Act.put, List.setIfInBounds_toArray, List.set_cons_zero, List.set_cons_succ]
          iterate 8
            apply mix_on rfl (wanted_is rfl rfl rfl rfl rfl)
            · intro W hW
              have hcW := (bcell hW).1
              go_simp
              try exact rfl
            simp only [Act.put, List.setIfInBounds_toArray, List.set_cons_zero, List.set_cons_succ]
          refine mix_won rfl (wanted_is rfl rfl rfl rfl rfl) (fun K hK => ?_)
          go_simp
          refine (equalS_any A17 A5 n5 c17 n5 c5 a a _ (r17t.out.ext T) ((r5.out.ext T2.out).ext T) e5.out e5.out hl5).mono ?_
          rintro e w19 ⟨rfl, hE⟩
          refine hK _ _ (T.trans (hE.mono T.size)) ?_
          clear hK K
          try simp only [Act.put, List.setIfInBounds_toArray, List.set_cons_zero, List.set_cons_succ]
          replace T := T.trans (hE.mono T.size)
          try rw [show decide (a = a) = true from decide_eq_true rfl]
          clear hE
          iterate 2
            apply mix_q rfl rfl
            · intro W hW
              have hcW := (bcell hW).1
              go_simp
              try exact rfl
            simp only [Act.put, List.setIfInBounds_toArray, List.set_cons_zero, List.set_cons_succ]
          refine mix_nil ?_
          go_wp2
          go_ret
          exact ⟨rfl, hB.out.trans ((T2.out.trans (T.mono T2.out.size)).mono hB.out.size)⟩
        · have hz' : (z == 0) = false := by rw [beq_eq_false_iff_ne]; exact hz
          obtain ⟨rfl, hq⟩ := putN_err hf.out hput.out hz
          obtain rfl : n17 = 0 := e17.out
          rcases hq with ⟨rfl, hq1⟩ | ⟨rfl, hq1, hq2⟩
          · replace hq1 := hide hq1
            go_wp2_with fail
            refine (checkN_any s _ hms (hL.out.ext T)).mono ?_
            rintro e w14 ⟨rfl, hE⟩
            rw [hq1.out]
            replace T := T.trans (hE.mono T.size)
            clear hE
            go_wp2
            go_ret
            exact ⟨rfl, hB.out.trans (T.mono hB.out.size)⟩
          · replace hq1 := hide hq1
            obtain rfl : n5 = 300 := e5.out.trans hq2
            replace hq2 := hide hq2
            clear k5 s5
            go_wp2_with fail
            refine (checkN_any s _ hms (hL.out.ext T)).mono ?_
            rintro e w14 ⟨rfl, hE⟩
            rw [hq1.out]
            replace T := T.trans (hE.mono T.size)
            clear hE
            have k5 := (X5.out.ext T).cell
            have s5 := (X5.out.ext T).lt
            go_wp2
            go_ret
            exact ⟨rfl, hB.out.trans (T.mono hB.out.size)⟩
end Go.Proofs.YtpfmbehhppbcnaaDoor
