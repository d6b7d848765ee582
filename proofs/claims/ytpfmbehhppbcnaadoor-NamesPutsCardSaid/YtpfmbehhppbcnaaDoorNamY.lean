/- NamesMay: the walk. -/
import Derived.Test.YtpfmbehhppbcnaaDoorNamN
namespace Go.Proofs.YtpfmbehhppbcnaaDoor
open Go.RowKit

theorem nameE_not {a : List ByteArray} (h : fineB a = false) (i : Int) : nameE a i = 201 := by unfold nameE; rw [if_neg (by rw [h]; decide)]
theorem nameE_out {a : List ByteArray} (h : fineB a = true) {i : Int} (hi : ¬ (0 ≤ i ∧ i < a.length)) : nameE a i = 4 := by unfold nameE; rw [if_pos h, if_neg hi]
theorem nameE_in {a : List ByteArray} (h : fineB a = true) {i : Int} (hi : 0 ≤ i ∧ i < a.length) : nameE a i = 0 := by unfold nameE; rw [if_pos h, if_pos hi]
theorem nameS_none {a : List ByteArray} {i : Int} (h : ¬ nameE a i = 0) : nameS a i = ByteArray.empty := by unfold nameS; rw [if_neg h]
theorem nameS_in {a : List ByteArray} {k : Nat} {s : ByteArray} (h : nameE a k = 0) (hs : a[k]? = some s) : nameS a k = s := by unfold nameS; rw [if_pos h, List.getD, Int.toNat_natCast, hs, Option.getD_some]
set_option maxRecDepth 100000 in
set_option maxHeartbeats 8000000 in
theorem namesMay_any (A1 A2 A3 : Option Addr) (n1 c1 n2 c2 n3 c3 : Nat) (xs ys : List ByteArray) (zs : List Int) (w : World) (hn1 : n1 = xs.length) (hc1 : n1 ≤ c1) (h1 : Rd strE w.heap.size w A1 xs) (hfx : ∀ x ∈ xs, x.size ≤ maxLen)
    (hn2 : n2 = ys.length) (hm2 : n2 ≤ maxLen) (h2 : Rd strE w.heap.size w A2 ys) (hfy : ∀ x ∈ ys, x.size ≤ maxLen) (hn3 : n3 = zs.length) (hm3 : n3 ≤ maxLen) (h3 : Rd intE w.heap.size w A3 zs) (hL : LaidU w) :
    Calls Tryd.prog 5 #[.agg #[.slice A1 n1 c1], .slice A2 n2 c2, .slice A3 n3 c3] w fun e w' => e = .returned (.bool true) ∧ Ext w w' := by
  replace h1 := hide h1
  replace hn1 := hide hn1
  replace h2 := hide h2
  replace hn2 := hide hn2
  replace h3 := hide h3
  replace hn3 := hide hn3
  replace hL := hide hL
  go_enter Tryd.func5, Tryd.ntmps5
  go_upto_region 1 with fail
  obtain ⟨w0, hw0⟩ : ∃ x, x = w.alloc (.cells #[.slice A1 n1 c1] 27) := ⟨_, rfl⟩
  rw [← hw0]
  have hE0 : Ext w w0 := by rw [hw0]; exact (Below.refl _ _).alloc (Nat.le_refl _) _
  have X3 : Hid (Box w0 w.heap.size 27 (.slice A1 n1 c1)) := hide (by rw [hw0]; exact Box.new _ _ _)
  clear hw0
  obtain ⟨p3, hp3⟩ : ∃ b, b = w.heap.size := ⟨_, rfl⟩
  rw [← hp3] at X3 ⊢
  clear hp3
  go_wp2_with fail
  refine (wakes_any _ (hL.out.ext hE0)).mono ?_
  rintro e w1 ⟨rfl, hE1⟩
  have hB := hide (hE0.trans (hE1.mono hE0.size))
  replace X3 := hide (X3.out.ext hE1)
  clear hE0 hE1
  have k3 := X3.out.cell
  have s3 := X3.out.lt
  have hfa : ∀ x ∈ xs.take 301, x.size ≤ maxLen := fun x hx => hfx x (List.mem_of_mem_take hx)
  have hla : (xs.take 301).length ≤ 301 := by rw [List.length_take]; omega
  obtain ⟨a, ha⟩ : ∃ a, a = xs.take 301 := ⟨_, rfl⟩
  rw [← ha] at hfa hla
  replace ha := hide ha
  go_wp2_with fail
  refine (own_any A1 n1 c1 xs _ (h1.out.ext hB.out) hn1.out hc1).mono ?_
  rintro e w2 ⟨v, rfl, hO, hE⟩
  rw [← ha.out] at hO
  obtain ⟨A7, c7, rfl, r7, hc7, -⟩ := hO.rd
  obtain ⟨n7, e7⟩ : ∃ m, m = (List.length a) := ⟨_, rfl⟩
  rw [← e7] at hc7 ⊢
  replace r7 := hide r7
  replace e7 := hide e7
  clear hO
  replace hB := hide (hB.out.trans (hE.mono hB.out.size))
  replace X3 := hide (X3.out.ext hE)
  clear hE k3 s3
  have hl7 : n7 ≤ 1000000 := by have := e7.out; omega
  go_upto_region 4 with fail
  obtain ⟨w4, hw⟩ : ∃ x, x = w2.alloc (.cells #[.slice A7 n7 c7] 27) := ⟨_, rfl⟩
  rw [← hw]
  have hE : Ext w2 w4 := by rw [hw]; exact (Below.refl _ _).alloc (Nat.le_refl _) _
  have X7 : Hid (Box w4 w2.heap.size 27 (.slice A7 n7 c7)) := hide (by rw [hw]; exact Box.new _ _ _)
  clear hw
  obtain ⟨p7, hp7⟩ : ∃ b, b = w2.heap.size := ⟨_, rfl⟩
  rw [← hp7] at X7 ⊢
  clear hp7
  replace hB := hide (hB.out.trans (hE.mono hB.out.size))
  replace X3 := hide (X3.out.ext hE)
  replace r7 := hide (r7.out.ext hE)
  clear hE
  replace h1 := hide (h1.out.ext hB.out)
  replace h2 := hide (h2.out.ext hB.out)
  replace h3 := hide (h3.out.ext hB.out)
  replace hL := hide (hL.out.ext hB.out)
  have T : Ext w4 w4 := Below.refl _ _
  have k7 := (X7.out.ext T).cell
  have s7 := (X7.out.ext T).lt
  go_wp2_with fail
  refine (refRight_any A7 n7 c7 a _ (r7.out.ext T) e7.out hl7 hc7 hfa (hL.out.ext T)).mono ?_
  rintro e w5 ⟨rfl, hE⟩
  replace T := T.trans (hE.mono T.size)
  clear hE
  clear k7 s7
  have k7 := (X7.out.ext T).cell
  have s7 := (X7.out.ext T).lt
  go_wp2_with fail
  refine (fine_any A7 n7 c7 a _ (r7.out.ext T) e7.out hl7 hfa (hL.out.ext T)).mono ?_
  rintro e w6 ⟨rfl, hE⟩
  replace T := T.trans (hE.mono T.size)
  clear hE
  clear k7 s7
  cases hf : fineB a with
  | true =>
    rw [finE_yes hf]
    replace hf := hide hf
    go_wp2
    go_loopw [45] (fun i wr => ∃ k : Nat, k ≤ n2 ∧ k ≤ 8 ∧ i = .int .i64 k ∧ Ext w4 wr) (fun i _ => n2 - (intOf i).toNat)
    case atStart => exact ⟨0, Nat.zero_le _, Nat.zero_le _, rfl, T⟩
    case round =>
      clear T
      obtain ⟨k, hk, hk8, rfl, T⟩ := hrel
      by_cases hlt : k < n2
      · have hlt' : (k : Int) < (n2 : Int) := by omega
        obtain ⟨bk, off, rfl, ra⟩ := (h2.out.ext T).at_ (i := k) (by rw [← hn2.out]; exact hlt)
        obtain ⟨s, hs⟩ := get_some (xs := ys) (i := k) (by rw [← hn2.out]; exact hlt)
        have hsc := ra.str hs
        have hbr := ra.1
        have hms : s.size ≤ maxLen := hfy s (List.mem_of_getElem? hs)
        replace ra := hide ra
        replace hs := hide hs
        by_cases h8 : k = 8
        · subst h8
          have hlt8 : (8 : Int) < (n2 : Int) := by omega
          rw [show ((8 : Nat) : Int) = 8 from rfl]
          go_wp2
          go_loopw [92] (fun i wr => ∃ m : Nat, m ≤ n3 ∧ m ≤ 8 ∧ i = .int .i64 m ∧ Ext w4 wr) (fun i _ => n3 - (intOf i).toNat)
          case atStart => exact ⟨0, Nat.zero_le _, Nat.zero_le _, rfl, T⟩
          case round =>
            clear T
            obtain ⟨m, hm, hm8, rfl, T⟩ := hrel
            by_cases hmt : m < n3
            · have hmt' : (m : Int) < (n3 : Int) := by omega
              obtain ⟨bm, om, rfl, rm⟩ := (h3.out.ext T).at_ (i := m) (by rw [← hn3.out]; exact hmt)
              obtain ⟨v, hv⟩ := get_some (xs := zs) (i := m) (by rw [← hn3.out]; exact hmt)
              have hvc := rm.int hv
              have hbm := rm.1
              replace rm := hide rm
              replace hv := hide hv
              by_cases g8 : m = 8
              · subst g8
                have Q1 := hide (h1.out.ext T)
                have R7 := hide (r7.out.ext T)
                have T0 := hide T
                have k3 := (X3.out.ext T).cell
                have s3 := (X3.out.ext T).lt
                have k7 := (X7.out.ext T).cell
                have s7 := (X7.out.ext T).lt
                clear T
                go_upto_region 35 with fail
                have T : Ext wr wr.drew := (Below.refl _ _).drew
                refine wp_region_mix (fun W => Below wr.heap.size wr W) [(0, true), (1, true), (2, false), (3, false), (4, true)] (by kernel_rfl) (by kernel_rfl) (by kernel_rfl) (by kernel_rfl) (fun _ _ d _ _ h => by cases d <;> exact h) ?_ ?_
                · exact T
                obtain ⟨wl, hwh⟩ : ∃ x, x = wr.drew := ⟨_, rfl⟩
                rw [← hwh] at T ⊢
                clear hwh
                iterate 2
                  apply mix_q rfl rfl
                  · intro W hW
                    have hcW := (bcell hW).1
                    go_simp
                    try exact rfl
                  simp only [Act.put, List.setIfInBounds_toArray, List.set_cons_zero, List.set_cons_succ]
                refine mix_w rfl rfl (fun K hK => ?_)
                go_simp
                refine (own_any A1 n1 c1 xs _ (Q1.out.ext T) hn1.out hc1).mono ?_
                rintro e w40 ⟨v, rfl, hO, hE⟩
                refine hK _ _ (T.trans (hE.mono T.size)) ?_
                clear hK K
                try simp only [Act.put, List.setIfInBounds_toArray, List.set_cons_zero, List.set_cons_succ]
                replace T := T.trans (hE.mono T.size)
                rw [← ha.out] at hO
                obtain ⟨A33, c33, rfl, r33, hc33, -⟩ := hO.rd
                obtain ⟨n33, e33⟩ : ∃ m, m = (List.length a) := ⟨_, rfl⟩
                rw [← e33] at hc33 ⊢
                replace r33 := hide r33
                replace e33 := hide e33
                clear hO
                clear hE
                refine mix_w rfl rfl (fun K hK => ?_)
                go_simp
                refine (refSame_any A7 A33 n7 c7 n33 c33 a a _ (R7.out.ext T) e7.out hl7 r33.out e33.out).mono ?_
                rintro e w41 ⟨rfl, hE⟩
                refine hK _ _ (T.trans (hE.mono T.size)) ?_
                clear hK K
                try simp only [Act.put, List.setIfInBounds_toArray, List.set_cons_zero, List.set_cons_succ]
                replace T := T.trans (hE.mono T.size)
                clear hE r33 e33 hc33
                iterate 1
                  apply mix_q rfl rfl
                  · intro W hW
                    have hcW := (bcell hW).1
                    go_simp
                    try exact rfl
                  simp only [Act.put, List.setIfInBounds_toArray, List.set_cons_zero, List.set_cons_succ]
                refine mix_nil ?_
                go_wp2
                go_ret
                exact ⟨rfl, hB.out.trans ((T0.out.trans (T.mono T0.out.size)).mono hB.out.size)⟩
              · have g8' : ((m : Int) == 8) = false := by rw [beq_eq_false_iff_ne]; omega
                have g8'' : ¬ (m : Int) = 8 := by omega
                have k7 := (X7.out.ext T).cell
                have s7 := (X7.out.ext T).lt
                go_wp2_with fail
                refine (name_any A7 n7 c7 a v _ (r7.out.ext T) e7.out hl7 hfa (hL.out.ext T)).mono ?_
                rintro e w11 ⟨rfl, hE⟩
                replace T := T.trans (hE.mono T.size)
                clear hE
                clear k7 s7 hvc hbm
                have k7 := (X7.out.ext T).cell
                have s7 := (X7.out.ext T).lt
                by_cases h0 : v < 0
                · have y2 := nameE_out hf.out (i := v) (by omega)
                  have y1 := nameS_none (a := a) (i := v) (by rw [y2]; decide)
                  rw [y1, y2]
                  replace y1 := hide y1
                  replace y2 := hide y2
                  go_wp2
                  refine ⟨?_, ?_⟩
                  · first
                      | exact ⟨m + 1, by omega, by omega, by go_num, T⟩
                      | ((repeat apply Exists.intro); exact ⟨⟨m + 1, by omega, by omega, by go_num, T⟩, rfl⟩)
                  · first | (simp [intOf, lenV]; omega) | (simp [intOf]; omega) | (simp [intOf]; done)
                · by_cases hv7 : v < n7
                  · obtain ⟨j, rfl⟩ : ∃ j : Nat, v = j := ⟨v.toNat, by omega⟩
                    have hj : j < n7 := by omega
                    have hj0 : (0 : Int) ≤ j := by omega
                    obtain ⟨b7, o7, rfl, r77⟩ := (r7.out.ext T).at_ (i := j) (by rw [← e7.out]; exact hj)
                    obtain ⟨u, hu⟩ := get_some (xs := a) (i := j) (by rw [← e7.out]; exact hj)
                    have huc := r77.str hu
                    have hb7 := r77.1
                    have y2 := nameE_in hf.out (i := (j : Int)) ⟨by omega, by rw [← e7.out]; exact hv7⟩
                    have y1 := nameS_in y2 hu
                    rw [y1, y2]
                    replace y1 := hide y1
                    replace y2 := hide y2
                    replace hu := hide hu
                    replace r77 := hide r77
                    go_wp2
                    refine ⟨?_, ?_⟩
                    · first
                        | exact ⟨m + 1, by omega, by omega, by go_num, T⟩
                        | ((repeat apply Exists.intro); exact ⟨⟨m + 1, by omega, by omega, by go_num, T⟩, rfl⟩)
                    · first | (simp [intOf, lenV]; omega) | (simp [intOf]; omega) | (simp [intOf]; done)
                  · have h0' : (0 : Int) ≤ v := by omega
                    have y2 := nameE_out hf.out (i := v) (by rw [← e7.out]; omega)
                    have y1 := nameS_none (a := a) (i := v) (by rw [y2]; decide)
                    rw [y1, y2]
                    replace y1 := hide y1
                    replace y2 := hide y2
                    go_wp2
                    refine ⟨?_, ?_⟩
                    · first
                        | exact ⟨m + 1, by omega, by omega, by go_num, T⟩
                        | ((repeat apply Exists.intro); exact ⟨⟨m + 1, by omega, by omega, by go_num, T⟩, rfl⟩)
                    · first | (simp [intOf, lenV]; omega) | (simp [intOf]; omega) | (simp [intOf]; done)
            · have hmt' : ¬ (m : Int) < (n3 : Int) := by omega
              have Q1 := hide (h1.out.ext T)
              have R7 := hide (r7.out.ext T)
              have T0 := hide T
              have k3 := (X3.out.ext T).cell
              have s3 := (X3.out.ext T).lt
              have k7 := (X7.out.ext T).cell
              have s7 := (X7.out.ext T).lt
              clear T
              go_upto_region 35 with fail
              have T : Ext wr wr.drew := (Below.refl _ _).drew
              refine wp_region_mix (fun W => Below wr.heap.size wr W) [(0, true), (1, true), (2, false), (3, false), (4, true)] (by kernel_rfl) (by kernel_rfl) (by kernel_rfl) (by kernel_rfl) (fun _ _ d _ _ h => by cases d <;> exact h) ?_ ?_
              · exact T
              obtain ⟨wl, hwh⟩ : ∃ x, x = wr.drew := ⟨_, rfl⟩
              rw [← hwh] at T ⊢
              clear hwh
              iterate 2
                apply mix_q rfl rfl
                · intro W hW
                  have hcW := (bcell hW).1
                  go_simp
                  try exact rfl
                simp only [Act.put, List.setIfInBounds_toArray, List.set_cons_zero, List.set_cons_succ]
              refine mix_w rfl rfl (fun K hK => ?_)
              go_simp
              refine (own_any A1 n1 c1 xs _ (Q1.out.ext T) hn1.out hc1).mono ?_
              rintro e w40 ⟨v, rfl, hO, hE⟩
              refine hK _ _ (T.trans (hE.mono T.size)) ?_
              clear hK K
              try simp only [Act.put, List.setIfInBounds_toArray, List.set_cons_zero, List.set_cons_succ]
              replace T := T.trans (hE.mono T.size)
              rw [← ha.out] at hO
              obtain ⟨A33, c33, rfl, r33, hc33, -⟩ := hO.rd
              obtain ⟨n33, e33⟩ : ∃ m, m = (List.length a) := ⟨_, rfl⟩
              rw [← e33] at hc33 ⊢
              replace r33 := hide r33
              replace e33 := hide e33
              clear hO
              clear hE
              refine mix_w rfl rfl (fun K hK => ?_)
              go_simp
              refine (refSame_any A7 A33 n7 c7 n33 c33 a a _ (R7.out.ext T) e7.out hl7 r33.out e33.out).mono ?_
              rintro e w41 ⟨rfl, hE⟩
              refine hK _ _ (T.trans (hE.mono T.size)) ?_
              clear hK K
              try simp only [Act.put, List.setIfInBounds_toArray, List.set_cons_zero, List.set_cons_succ]
              replace T := T.trans (hE.mono T.size)
              clear hE r33 e33 hc33
              iterate 1
                apply mix_q rfl rfl
                · intro W hW
                  have hcW := (bcell hW).1
                  go_simp
                  try exact rfl
                simp only [Act.put, List.setIfInBounds_toArray, List.set_cons_zero, List.set_cons_succ]
              refine mix_nil ?_
              go_wp2
              go_ret
              exact ⟨rfl, hB.out.trans ((T0.out.trans (T.mono T0.out.size)).mono hB.out.size)⟩
        · have h8' : ((k : Int) == 8) = false := by rw [beq_eq_false_iff_ne]; omega
          have h8'' : ¬ (k : Int) = 8 := by omega
          go_wp2_with fail
          refine (checkN_any s _ hms (hL.out.ext T)).mono ?_
          rintro e w7 ⟨rfl, hE⟩
          replace T := T.trans (hE.mono T.size)
          clear hE
          clear hsc hbr
          obtain ⟨z, hz⟩ : ∃ z : Int, z = if s ∈ a then (at_ a s : Int) else 0 := ⟨_, rfl⟩
          obtain ⟨q, hq⟩ : ∃ q, q = decide (s ∈ a) := ⟨_, rfl⟩
          have fb : Hid (foundB a s = q) := hide (by rw [hq]; unfold foundB; rw [hf.out, Bool.and_true])
          have fn : Hid (foundN a s = z) := hide (by rw [hz]; unfold foundN; rw [fb.out, hq]; simp)
          replace hz := hide hz
          replace hq := hide hq
          cases hw : wordB s with
          | true =>
            rw [chkN_word hw]
            replace hw := hide hw
            go_wp2_with fail
            refine (refWord_any s _ hms).mono ?_
            rintro e w8 ⟨rfl, hE⟩
            rw [hw.out]
            replace T := T.trans (hE.mono T.size)
            clear hE
            have k7 := (X7.out.ext T).cell
            have s7 := (X7.out.ext T).lt
            go_wp2_with fail
            refine (refFind_any A7 n7 c7 a s _ (r7.out.ext T) e7.out hl7).mono ?_
            rintro e w9 ⟨rfl, hE⟩
            rw [← hz.out, ← hq.out]
            replace T := T.trans (hE.mono T.size)
            clear hE
            clear k7 s7
            have k7 := (X7.out.ext T).cell
            have s7 := (X7.out.ext T).lt
            go_wp2_with fail
            refine (find_any A7 n7 c7 a s _ (r7.out.ext T) e7.out hl7 hfa (hL.out.ext T)).mono ?_
            rintro e w10 ⟨rfl, hE⟩
            rw [fn.out, fb.out]
            replace T := T.trans (hE.mono T.size)
            clear hE
            clear k7 s7
            go_wp2
            refine ⟨?_, ?_⟩
            · first
                | exact ⟨k + 1, by omega, by omega, by go_num, T⟩
                | ((repeat apply Exists.intro); exact ⟨⟨k + 1, by omega, by omega, by go_num, T⟩, rfl⟩)
            · first | (simp [intOf, lenV]; omega) | (simp [intOf]; omega) | (simp [intOf]; done)
          | false =>
            rw [chkN_not hw]
            replace hw := hide hw
            go_wp2_with fail
            refine (refWord_any s _ hms).mono ?_
            rintro e w8 ⟨rfl, hE⟩
            rw [hw.out]
            replace T := T.trans (hE.mono T.size)
            clear hE
            have k7 := (X7.out.ext T).cell
            have s7 := (X7.out.ext T).lt
            go_wp2_with fail
            refine (refFind_any A7 n7 c7 a s _ (r7.out.ext T) e7.out hl7).mono ?_
            rintro e w9 ⟨rfl, hE⟩
            rw [← hz.out, ← hq.out]
            replace T := T.trans (hE.mono T.size)
            clear hE
            clear k7 s7
            have k7 := (X7.out.ext T).cell
            have s7 := (X7.out.ext T).lt
            go_wp2_with fail
            refine (find_any A7 n7 c7 a s _ (r7.out.ext T) e7.out hl7 hfa (hL.out.ext T)).mono ?_
            rintro e w10 ⟨rfl, hE⟩
            rw [fn.out, fb.out]
            replace T := T.trans (hE.mono T.size)
            clear hE
            clear k7 s7
            go_wp2
            refine ⟨?_, ?_⟩
            · first
                | exact ⟨k + 1, by omega, by omega, by go_num, T⟩
                | ((repeat apply Exists.intro); exact ⟨⟨k + 1, by omega, by omega, by go_num, T⟩, rfl⟩)
            · first | (simp [intOf, lenV]; omega) | (simp [intOf]; omega) | (simp [intOf]; done)
      · have hlt' : ¬ (k : Int) < (n2 : Int) := by omega
        go_wp2
        go_loopw [92] (fun i wr => ∃ m : Nat, m ≤ n3 ∧ m ≤ 8 ∧ i = .int .i64 m ∧ Ext w4 wr) (fun i _ => n3 - (intOf i).toNat)
        case atStart => exact ⟨0, Nat.zero_le _, Nat.zero_le _, rfl, T⟩
        case round =>
          clear T
          obtain ⟨m, hm, hm8, rfl, T⟩ := hrel
          by_cases hmt : m < n3
          · have hmt' : (m : Int) < (n3 : Int) := by omega
            obtain ⟨bm, om, rfl, rm⟩ := (h3.out.ext T).at_ (i := m) (by rw [← hn3.out]; exact hmt)
            obtain ⟨v, hv⟩ := get_some (xs := zs) (i := m) (by rw [← hn3.out]; exact hmt)
            have hvc := rm.int hv
            have hbm := rm.1
            replace rm := hide rm
            replace hv := hide hv
            by_cases g8 : m = 8
            · subst g8
              have Q1 := hide (h1.out.ext T)
              have R7 := hide (r7.out.ext T)
              have T0 := hide T
              have k3 := (X3.out.ext T).cell
              have s3 := (X3.out.ext T).lt
              have k7 := (X7.out.ext T).cell
              have s7 := (X7.out.ext T).lt
              clear T
              go_upto_region 35 with fail
              have T : Ext wr wr.drew := (Below.refl _ _).drew
              refine wp_region_mix (fun W => Below wr.heap.size wr W) [(0, true), (1, true), (2, false), (3, false), (4, true)] (by kernel_rfl) (by kernel_rfl) (by kernel_rfl) (by kernel_rfl) (fun _ _ d _ _ h => by cases d <;> exact h) ?_ ?_
              · exact T
              obtain ⟨wl, hwh⟩ : ∃ x, x = wr.drew := ⟨_, rfl⟩
              rw [← hwh] at T ⊢
              clear hwh
              iterate 2
                apply mix_q rfl rfl
                · intro W hW
                  have hcW := (bcell hW).1
                  go_simp
                  try exact rfl
                simp only [Act.put, List.setIfInBounds_toArray, List.set_cons_zero, List.set_cons_succ]
              refine mix_w rfl rfl (fun K hK => ?_)
              go_simp
              refine (own_any A1 n1 c1 xs _ (Q1.out.ext T) hn1.out hc1).mono ?_
              rintro e w40 ⟨v, rfl, hO, hE⟩
              refine hK _ _ (T.trans (hE.mono T.size)) ?_
              clear hK K
              try simp only [Act.put, List.setIfInBounds_toArray, List.set_cons_zero, List.set_cons_succ]
              replace T := T.trans (hE.mono T.size)
              rw [← ha.out] at hO
              obtain ⟨A33, c33, rfl, r33, hc33, -⟩ := hO.rd
              obtain ⟨n33, e33⟩ : ∃ m, m = (List.length a) := ⟨_, rfl⟩
              rw [← e33] at hc33 ⊢
              replace r33 := hide r33
              replace e33 := hide e33
              clear hO
              clear hE
              refine mix_w rfl rfl (fun K hK => ?_)
              go_simp
              refine (refSame_any A7 A33 n7 c7 n33 c33 a a _ (R7.out.ext T) e7.out hl7 r33.out e33.out).mono ?_
              rintro e w41 ⟨rfl, hE⟩
              refine hK _ _ (T.trans (hE.mono T.size)) ?_
              clear hK K
              try simp only [Act.put, List.setIfInBounds_toArray, List.set_cons_zero, List.set_cons_succ]
              replace T := T.trans (hE.mono T.size)
              clear hE r33 e33 hc33
              iterate 1
                apply mix_q rfl rfl
                · intro W hW
                  have hcW := (bcell hW).1
                  go_simp
                  try exact rfl
                simp only [Act.put, List.setIfInBounds_toArray, List.set_cons_zero, List.set_cons_succ]
              refine mix_nil ?_
              go_wp2
              go_ret
              exact ⟨rfl, hB.out.trans ((T0.out.trans (T.mono T0.out.size)).mono hB.out.size)⟩
            · have g8' : ((m : Int) == 8) = false := by rw [beq_eq_false_iff_ne]; omega
              have g8'' : ¬ (m : Int) = 8 := by omega
              have k7 := (X7.out.ext T).cell
              have s7 := (X7.out.ext T).lt
              go_wp2_with fail
              refine (name_any A7 n7 c7 a v _ (r7.out.ext T) e7.out hl7 hfa (hL.out.ext T)).mono ?_
              rintro e w11 ⟨rfl, hE⟩
              replace T := T.trans (hE.mono T.size)
              clear hE
              clear k7 s7 hvc hbm
              have k7 := (X7.out.ext T).cell
              have s7 := (X7.out.ext T).lt
              by_cases h0 : v < 0
              · have y2 := nameE_out hf.out (i := v) (by omega)
                have y1 := nameS_none (a := a) (i := v) (by rw [y2]; decide)
                rw [y1, y2]
                replace y1 := hide y1
                replace y2 := hide y2
                go_wp2
                refine ⟨?_, ?_⟩
                · first
                    | exact ⟨m + 1, by omega, by omega, by go_num, T⟩
                    | ((repeat apply Exists.intro); exact ⟨⟨m + 1, by omega, by omega, by go_num, T⟩, rfl⟩)
                · first | (simp [intOf, lenV]; omega) | (simp [intOf]; omega) | (simp [intOf]; done)
              · by_cases hv7 : v < n7
                · obtain ⟨j, rfl⟩ : ∃ j : Nat, v = j := ⟨v.toNat, by omega⟩
                  have hj : j < n7 := by omega
                  have hj0 : (0 : Int) ≤ j := by omega
                  obtain ⟨b7, o7, rfl, r77⟩ := (r7.out.ext T).at_ (i := j) (by rw [← e7.out]; exact hj)
                  obtain ⟨u, hu⟩ := get_some (xs := a) (i := j) (by rw [← e7.out]; exact hj)
                  have huc := r77.str hu
                  have hb7 := r77.1
                  have y2 := nameE_in hf.out (i := (j : Int)) ⟨by omega, by rw [← e7.out]; exact hv7⟩
                  have y1 := nameS_in y2 hu
                  rw [y1, y2]
                  replace y1 := hide y1
                  replace y2 := hide y2
                  replace hu := hide hu
                  replace r77 := hide r77
                  go_wp2
                  refine ⟨?_, ?_⟩
                  · first
                      | exact ⟨m + 1, by omega, by omega, by go_num, T⟩
                      | ((repeat apply Exists.intro); exact ⟨⟨m + 1, by omega, by omega, by go_num, T⟩, rfl⟩)
                  · first | (simp [intOf, lenV]; omega) | (simp [intOf]; omega) | (simp [intOf]; done)
                · have h0' : (0 : Int) ≤ v := by omega
                  have y2 := nameE_out hf.out (i := v) (by rw [← e7.out]; omega)
                  have y1 := nameS_none (a := a) (i := v) (by rw [y2]; decide)
                  rw [y1, y2]
                  replace y1 := hide y1
                  replace y2 := hide y2
                  go_wp2
                  refine ⟨?_, ?_⟩
                  · first
                      | exact ⟨m + 1, by omega, by omega, by go_num, T⟩
                      | ((repeat apply Exists.intro); exact ⟨⟨m + 1, by omega, by omega, by go_num, T⟩, rfl⟩)
                  · first | (simp [intOf, lenV]; omega) | (simp [intOf]; omega) | (simp [intOf]; done)
          · have hmt' : ¬ (m : Int) < (n3 : Int) := by omega
            have Q1 := hide (h1.out.ext T)
            have R7 := hide (r7.out.ext T)
            have T0 := hide T
            have k3 := (X3.out.ext T).cell
            have s3 := (X3.out.ext T).lt
            have k7 := (X7.out.ext T).cell
            have s7 := (X7.out.ext T).lt
            clear T
            go_upto_region 35 with fail
            have T : Ext wr wr.drew := (Below.refl _ _).drew
            refine wp_region_mix (fun W => Below wr.heap.size wr W) [(0, true), (1, true), (2, false), (3, false), (4, true)] (by kernel_rfl) (by kernel_rfl) (by kernel_rfl) (by kernel_rfl) (fun _ _ d _ _ h => by cases d <;> exact h) ?_ ?_
            · exact T
            obtain ⟨wl, hwh⟩ : ∃ x, x = wr.drew := ⟨_, rfl⟩
            rw [← hwh] at T ⊢
            clear hwh
            iterate 2
              apply mix_q rfl rfl
              · intro W hW
                have hcW := (bcell hW).1
                go_simp
                try exact rfl
              simp only [Act.put, List.setIfInBounds_toArray, List.set_cons_zero, List.set_cons_succ]
            refine mix_w rfl rfl (fun K hK => ?_)
            go_simp
            refine (own_any A1 n1 c1 xs _ (Q1.out.ext T) hn1.out hc1).mono ?_
            rintro e w40 ⟨v, rfl, hO, hE⟩
            refine hK _ _ (T.trans (hE.mono T.size)) ?_
            clear hK K
            try simp only [Act.put, List.setIfInBounds_toArray, List.set_cons_zero, List.set_cons_succ]
            replace T := T.trans (hE.mono T.size)
            rw [← ha.out] at hO
            obtain ⟨A33, c33, rfl, r33, hc33, -⟩ := hO.rd
            obtain ⟨n33, e33⟩ : ∃ m, m = (List.length a) := ⟨_, rfl⟩
            rw [← e33] at hc33 ⊢
            replace r33 := hide r33
            replace e33 := hide e33
            clear hO
            clear hE
            refine mix_w rfl rfl (fun K hK => ?_)
            go_simp
            refine (refSame_any A7 A33 n7 c7 n33 c33 a a _ (R7.out.ext T) e7.out hl7 r33.out e33.out).mono ?_
            rintro e w41 ⟨rfl, hE⟩
            refine hK _ _ (T.trans (hE.mono T.size)) ?_
            clear hK K
            try simp only [Act.put, List.setIfInBounds_toArray, List.set_cons_zero, List.set_cons_succ]
            replace T := T.trans (hE.mono T.size)
            clear hE r33 e33 hc33
            iterate 1
              apply mix_q rfl rfl
              · intro W hW
                have hcW := (bcell hW).1
                go_simp
                try exact rfl
              simp only [Act.put, List.setIfInBounds_toArray, List.set_cons_zero, List.set_cons_succ]
            refine mix_nil ?_
            go_wp2
            go_ret
            exact ⟨rfl, hB.out.trans ((T0.out.trans (T.mono T0.out.size)).mono hB.out.size)⟩
  | false =>
    rw [finE_no hf]
    replace hf := hide hf
    go_wp2
    go_loopw [45] (fun i wr => ∃ k : Nat, k ≤ n2 ∧ k ≤ 8 ∧ i = .int .i64 k ∧ Ext w4 wr) (fun i _ => n2 - (intOf i).toNat)
    case atStart => exact ⟨0, Nat.zero_le _, Nat.zero_le _, rfl, T⟩
    case round =>
      clear T
      obtain ⟨k, hk, hk8, rfl, T⟩ := hrel
      by_cases hlt : k < n2
      · have hlt' : (k : Int) < (n2 : Int) := by omega
        obtain ⟨bk, off, rfl, ra⟩ := (h2.out.ext T).at_ (i := k) (by rw [← hn2.out]; exact hlt)
        obtain ⟨s, hs⟩ := get_some (xs := ys) (i := k) (by rw [← hn2.out]; exact hlt)
        have hsc := ra.str hs
        have hbr := ra.1
        have hms : s.size ≤ maxLen := hfy s (List.mem_of_getElem? hs)
        replace ra := hide ra
        replace hs := hide hs
        by_cases h8 : k = 8
        · subst h8
          have hlt8 : (8 : Int) < (n2 : Int) := by omega
          rw [show ((8 : Nat) : Int) = 8 from rfl]
          go_wp2
          go_loopw [92] (fun i wr => ∃ m : Nat, m ≤ n3 ∧ m ≤ 8 ∧ i = .int .i64 m ∧ Ext w4 wr) (fun i _ => n3 - (intOf i).toNat)
          case atStart => exact ⟨0, Nat.zero_le _, Nat.zero_le _, rfl, T⟩
          case round =>
            clear T
            obtain ⟨m, hm, hm8, rfl, T⟩ := hrel
            by_cases hmt : m < n3
            · have hmt' : (m : Int) < (n3 : Int) := by omega
              obtain ⟨bm, om, rfl, rm⟩ := (h3.out.ext T).at_ (i := m) (by rw [← hn3.out]; exact hmt)
              obtain ⟨v, hv⟩ := get_some (xs := zs) (i := m) (by rw [← hn3.out]; exact hmt)
              have hvc := rm.int hv
              have hbm := rm.1
              replace rm := hide rm
              replace hv := hide hv
              by_cases g8 : m = 8
              · subst g8
                have Q1 := hide (h1.out.ext T)
                have R7 := hide (r7.out.ext T)
                have T0 := hide T
                have k3 := (X3.out.ext T).cell
                have s3 := (X3.out.ext T).lt
                have k7 := (X7.out.ext T).cell
                have s7 := (X7.out.ext T).lt
                clear T
                go_upto_region 35 with fail
                have T : Ext wr wr.drew := (Below.refl _ _).drew
                refine wp_region_mix (fun W => Below wr.heap.size wr W) [(0, true), (1, true), (2, false), (3, false), (4, true)] (by kernel_rfl) (by kernel_rfl) (by kernel_rfl) (by kernel_rfl) (fun _ _ d _ _ h => by cases d <;> exact h) ?_ ?_
                · exact T
                obtain ⟨wl, hwh⟩ : ∃ x, x = wr.drew := ⟨_, rfl⟩
                rw [← hwh] at T ⊢
                clear hwh
                iterate 2
                  apply mix_q rfl rfl
                  · intro W hW
                    have hcW := (bcell hW).1
                    go_simp
                    try exact rfl
                  simp only [Act.put, List.setIfInBounds_toArray, List.set_cons_zero, List.set_cons_succ]
                refine mix_w rfl rfl (fun K hK => ?_)
                go_simp
                refine (own_any A1 n1 c1 xs _ (Q1.out.ext T) hn1.out hc1).mono ?_
                rintro e w40 ⟨v, rfl, hO, hE⟩
                refine hK _ _ (T.trans (hE.mono T.size)) ?_
                clear hK K
                try simp only [Act.put, List.setIfInBounds_toArray, List.set_cons_zero, List.set_cons_succ]
                replace T := T.trans (hE.mono T.size)
                rw [← ha.out] at hO
                obtain ⟨A33, c33, rfl, r33, hc33, -⟩ := hO.rd
                obtain ⟨n33, e33⟩ : ∃ m, m = (List.length a) := ⟨_, rfl⟩
                rw [← e33] at hc33 ⊢
                replace r33 := hide r33
                replace e33 := hide e33
                clear hO
                clear hE
                refine mix_w rfl rfl (fun K hK => ?_)
                go_simp
                refine (refSame_any A7 A33 n7 c7 n33 c33 a a _ (R7.out.ext T) e7.out hl7 r33.out e33.out).mono ?_
                rintro e w41 ⟨rfl, hE⟩
                refine hK _ _ (T.trans (hE.mono T.size)) ?_
                clear hK K
                try simp only [Act.put, List.setIfInBounds_toArray, List.set_cons_zero, List.set_cons_succ]
                replace T := T.trans (hE.mono T.size)
                clear hE r33 e33 hc33
                iterate 1
                  apply mix_q rfl rfl
                  · intro W hW
                    have hcW := (bcell hW).1
                    go_simp
                    try exact rfl
                  simp only [Act.put, List.setIfInBounds_toArray, List.set_cons_zero, List.set_cons_succ]
                refine mix_nil ?_
                go_wp2
                go_ret
                exact ⟨rfl, hB.out.trans ((T0.out.trans (T.mono T0.out.size)).mono hB.out.size)⟩
              · have g8' : ((m : Int) == 8) = false := by rw [beq_eq_false_iff_ne]; omega
                have g8'' : ¬ (m : Int) = 8 := by omega
                have k7 := (X7.out.ext T).cell
                have s7 := (X7.out.ext T).lt
                go_wp2_with fail
                refine (name_any A7 n7 c7 a v _ (r7.out.ext T) e7.out hl7 hfa (hL.out.ext T)).mono ?_
                rintro e w11 ⟨rfl, hE⟩
                replace T := T.trans (hE.mono T.size)
                clear hE
                clear k7 s7 hvc hbm
                have k7 := (X7.out.ext T).cell
                have s7 := (X7.out.ext T).lt
                have y2 := nameE_not hf.out v
                have y1 := nameS_none (a := a) (i := v) (by rw [y2]; decide)
                rw [y1, y2]
                replace y1 := hide y1
                replace y2 := hide y2
                go_wp2
                refine ⟨?_, ?_⟩
                · first
                    | exact ⟨m + 1, by omega, by omega, by go_num, T⟩
                    | ((repeat apply Exists.intro); exact ⟨⟨m + 1, by omega, by omega, by go_num, T⟩, rfl⟩)
                · first | (simp [intOf, lenV]; omega) | (simp [intOf]; omega) | (simp [intOf]; done)
            · have hmt' : ¬ (m : Int) < (n3 : Int) := by omega
              have Q1 := hide (h1.out.ext T)
              have R7 := hide (r7.out.ext T)
              have T0 := hide T
              have k3 := (X3.out.ext T).cell
              have s3 := (X3.out.ext T).lt
              have k7 := (X7.out.ext T).cell
              have s7 := (X7.out.ext T).lt
              clear T
              go_upto_region 35 with fail
              have T : Ext wr wr.drew := (Below.refl _ _).drew
              refine wp_region_mix (fun W => Below wr.heap.size wr W) [(0, true), (1, true), (2, false), (3, false), (4, true)] (by kernel_rfl) (by kernel_rfl) (by kernel_rfl) (by kernel_rfl) (fun _ _ d _ _ h => by cases d <;> exact h) ?_ ?_
              · exact T
              obtain ⟨wl, hwh⟩ : ∃ x, x = wr.drew := ⟨_, rfl⟩
              rw [← hwh] at T ⊢
              clear hwh
              iterate 2
                apply mix_q rfl rfl
                · intro W hW
                  have hcW := (bcell hW).1
                  go_simp
                  try exact rfl
                simp only [Act.put, List.setIfInBounds_toArray, List.set_cons_zero, List.set_cons_succ]
              refine mix_w rfl rfl (fun K hK => ?_)
              go_simp
              refine (own_any A1 n1 c1 xs _ (Q1.out.ext T) hn1.out hc1).mono ?_
              rintro e w40 ⟨v, rfl, hO, hE⟩
              refine hK _ _ (T.trans (hE.mono T.size)) ?_
              clear hK K
              try simp only [Act.put, List.setIfInBounds_toArray, List.set_cons_zero, List.set_cons_succ]
              replace T := T.trans (hE.mono T.size)
              rw [← ha.out] at hO
              obtain ⟨A33, c33, rfl, r33, hc33, -⟩ := hO.rd
              obtain ⟨n33, e33⟩ : ∃ m, m = (List.length a) := ⟨_, rfl⟩
              rw [← e33] at hc33 ⊢
              replace r33 := hide r33
              replace e33 := hide e33
              clear hO
              clear hE
              refine mix_w rfl rfl (fun K hK => ?_)
              go_simp
              refine (refSame_any A7 A33 n7 c7 n33 c33 a a _ (R7.out.ext T) e7.out hl7 r33.out e33.out).mono ?_
              rintro e w41 ⟨rfl, hE⟩
              refine hK _ _ (T.trans (hE.mono T.size)) ?_
              clear hK K
              try simp only [Act.put, List.setIfInBounds_toArray, List.set_cons_zero, List.set_cons_succ]
              replace T := T.trans (hE.mono T.size)
              clear hE r33 e33 hc33
              iterate 1
                apply mix_q rfl rfl
                · intro W hW
                  have hcW := (bcell hW).1
                  go_simp
                  try exact rfl
                simp only [Act.put, List.setIfInBounds_toArray, List.set_cons_zero, List.set_cons_succ]
              refine mix_nil ?_
              go_wp2
              go_ret
              exact ⟨rfl, hB.out.trans ((T0.out.trans (T.mono T0.out.size)).mono hB.out.size)⟩
        · have h8' : ((k : Int) == 8) = false := by rw [beq_eq_false_iff_ne]; omega
          have h8'' : ¬ (k : Int) = 8 := by omega
          go_wp2_with fail
          refine (checkN_any s _ hms (hL.out.ext T)).mono ?_
          rintro e w7 ⟨rfl, hE⟩
          replace T := T.trans (hE.mono T.size)
          clear hE
          clear hsc hbr
          have fb : Hid (foundB a s = false) := hide (by unfold foundB; rw [hf.out, Bool.and_false])
          have fn : Hid (foundN a s = 0) := hide (by unfold foundN; rw [fb.out]; rfl)
          cases hw : wordB s with
          | true =>
            rw [chkN_word hw]
            replace hw := hide hw
            go_wp2_with fail
            refine (refWord_any s _ hms).mono ?_
            rintro e w8 ⟨rfl, hE⟩
            rw [hw.out]
            replace T := T.trans (hE.mono T.size)
            clear hE
            have k7 := (X7.out.ext T).cell
            have s7 := (X7.out.ext T).lt
            go_wp2_with fail
            refine (find_any A7 n7 c7 a s _ (r7.out.ext T) e7.out hl7 hfa (hL.out.ext T)).mono ?_
            rintro e w10 ⟨rfl, hE⟩
            rw [fn.out, fb.out]
            replace T := T.trans (hE.mono T.size)
            clear hE
            clear k7 s7
            go_wp2
            refine ⟨?_, ?_⟩
            · first
                | exact ⟨k + 1, by omega, by omega, by go_num, T⟩
                | ((repeat apply Exists.intro); exact ⟨⟨k + 1, by omega, by omega, by go_num, T⟩, rfl⟩)
            · first | (simp [intOf, lenV]; omega) | (simp [intOf]; omega) | (simp [intOf]; done)
          | false =>
            rw [chkN_not hw]
            replace hw := hide hw
            go_wp2_with fail
            refine (refWord_any s _ hms).mono ?_
            rintro e w8 ⟨rfl, hE⟩
            rw [hw.out]
            replace T := T.trans (hE.mono T.size)
            clear hE
            have k7 := (X7.out.ext T).cell
            have s7 := (X7.out.ext T).lt
            go_wp2_with fail
            refine (find_any A7 n7 c7 a s _ (r7.out.ext T) e7.out hl7 hfa (hL.out.ext T)).mono ?_
            rintro e w10 ⟨rfl, hE⟩
            rw [fn.out, fb.out]
            replace T := T.trans (hE.mono T.size)
            clear hE
            clear k7 s7
            go_wp2
            refine ⟨?_, ?_⟩
            · first
                | exact ⟨k + 1, by omega, by omega, by go_num, T⟩
                | ((repeat apply Exists.intro); exact ⟨⟨k + 1, by omega, by omega, by go_num, T⟩, rfl⟩)
            · first | (simp [intOf, lenV]; omega) | (simp [intOf]; omega) | (simp [intOf]; done)
      · have hlt' : ¬ (k : Int) < (n2 : Int) := by omega
        go_wp2
        go_loopw [92] (fun i wr => ∃ m : Nat, m ≤ n3 ∧ m ≤ 8 ∧ i = .int .i64 m ∧ Ext w4 wr) (fun i _ => n3 - (intOf i).toNat)
        case atStart => exact ⟨0, Nat.zero_le _, Nat.zero_le _, rfl, T⟩
        case round =>
          clear T
          obtain ⟨m, hm, hm8, rfl, T⟩ := hrel
          by_cases hmt : m < n3
          · have hmt' : (m : Int) < (n3 : Int) := by omega
            obtain ⟨bm, om, rfl, rm⟩ := (h3.out.ext T).at_ (i := m) (by rw [← hn3.out]; exact hmt)
            obtain ⟨v, hv⟩ := get_some (xs := zs) (i := m) (by rw [← hn3.out]; exact hmt)
            have hvc := rm.int hv
            have hbm := rm.1
            replace rm := hide rm
            replace hv := hide hv
            by_cases g8 : m = 8
            · subst g8
              have Q1 := hide (h1.out.ext T)
              have R7 := hide (r7.out.ext T)
              have T0 := hide T
              have k3 := (X3.out.ext T).cell
              have s3 := (X3.out.ext T).lt
              have k7 := (X7.out.ext T).cell
              have s7 := (X7.out.ext T).lt
              clear T
              go_upto_region 35 with fail
              have T : Ext wr wr.drew := (Below.refl _ _).drew
              refine wp_region_mix (fun W => Below wr.heap.size wr W) [(0, true), (1, true), (2, false), (3, false), (4, true)] (by kernel_rfl) (by kernel_rfl) (by kernel_rfl) (by kernel_rfl) (fun _ _ d _ _ h => by cases d <;> exact h) ?_ ?_
              · exact T
              obtain ⟨wl, hwh⟩ : ∃ x, x = wr.drew := ⟨_, rfl⟩
              rw [← hwh] at T ⊢
              clear hwh
              iterate 2
                apply mix_q rfl rfl
                · intro W hW
                  have hcW := (bcell hW).1
                  go_simp
                  try exact rfl
                simp only [Act.put, List.setIfInBounds_toArray, List.set_cons_zero, List.set_cons_succ]
              refine mix_w rfl rfl (fun K hK => ?_)
              go_simp
              refine (own_any A1 n1 c1 xs _ (Q1.out.ext T) hn1.out hc1).mono ?_
              rintro e w40 ⟨v, rfl, hO, hE⟩
              refine hK _ _ (T.trans (hE.mono T.size)) ?_
              clear hK K
              try simp only [Act.put, List.setIfInBounds_toArray, List.set_cons_zero, List.set_cons_succ]
              replace T := T.trans (hE.mono T.size)
              rw [← ha.out] at hO
              obtain ⟨A33, c33, rfl, r33, hc33, -⟩ := hO.rd
              obtain ⟨n33, e33⟩ : ∃ m, m = (List.length a) := ⟨_, rfl⟩
              rw [← e33] at hc33 ⊢
              replace r33 := hide r33
              replace e33 := hide e33
              clear hO
              clear hE
              refine mix_w rfl rfl (fun K hK => ?_)
              go_simp
              refine (refSame_any A7 A33 n7 c7 n33 c33 a a _ (R7.out.ext T) e7.out hl7 r33.out e33.out).mono ?_
              rintro e w41 ⟨rfl, hE⟩
              refine hK _ _ (T.trans (hE.mono T.size)) ?_
              clear hK K
              try simp only [Act.put, List.setIfInBounds_toArray, List.set_cons_zero, List.set_cons_succ]
              replace T := T.trans (hE.mono T.size)
              clear hE r33 e33 hc33
              iterate 1
                apply mix_q rfl rfl
                · intro W hW
                  have hcW := (bcell hW).1
                  go_simp
                  try exact rfl
                simp only [Act.put, List.setIfInBounds_toArray, List.set_cons_zero, List.set_cons_succ]
              refine mix_nil ?_
              go_wp2
              go_ret
              exact ⟨rfl, hB.out.trans ((T0.out.trans (T.mono T0.out.size)).mono hB.out.size)⟩
            · have g8' : ((m : Int) == 8) = false := by rw [beq_eq_false_iff_ne]; omega
              have g8'' : ¬ (m : Int) = 8 := by omega
              have k7 := (X7.out.ext T).cell
              have s7 := (X7.out.ext T).lt
              go_wp2_with fail
              refine (name_any A7 n7 c7 a v _ (r7.out.ext T) e7.out hl7 hfa (hL.out.ext T)).mono ?_
              rintro e w11 ⟨rfl, hE⟩
              replace T := T.trans (hE.mono T.size)
              clear hE
              clear k7 s7 hvc hbm
              have k7 := (X7.out.ext T).cell
              have s7 := (X7.out.ext T).lt
              have y2 := nameE_not hf.out v
              have y1 := nameS_none (a := a) (i := v) (by rw [y2]; decide)
              rw [y1, y2]
              replace y1 := hide y1
              replace y2 := hide y2
              go_wp2
              refine ⟨?_, ?_⟩
              · first
                  | exact ⟨m + 1, by omega, by omega, by go_num, T⟩
                  | ((repeat apply Exists.intro); exact ⟨⟨m + 1, by omega, by omega, by go_num, T⟩, rfl⟩)
              · first | (simp [intOf, lenV]; omega) | (simp [intOf]; omega) | (simp [intOf]; done)
          · have hmt' : ¬ (m : Int) < (n3 : Int) := by omega
            have Q1 := hide (h1.out.ext T)
            have R7 := hide (r7.out.ext T)
            have T0 := hide T
            have k3 := (X3.out.ext T).cell
            have s3 := (X3.out.ext T).lt
            have k7 := (X7.out.ext T).cell
            have s7 := (X7.out.ext T).lt
            clear T
            go_upto_region 35 with fail
            have T : Ext wr wr.drew := (Below.refl _ _).drew
            refine wp_region_mix (fun W => Below wr.heap.size wr W) [(0, true), (1, true), (2, false), (3, false), (4, true)] (by kernel_rfl) (by kernel_rfl) (by kernel_rfl) (by kernel_rfl) (fun _ _ d _ _ h => by cases d <;> exact h) ?_ ?_
            · exact T
            obtain ⟨wl, hwh⟩ : ∃ x, x = wr.drew := ⟨_, rfl⟩
            rw [← hwh] at T ⊢
            clear hwh
            iterate 2
              apply mix_q rfl rfl
              · intro W hW
                have hcW := (bcell hW).1
                go_simp
                try exact rfl
              simp only [Act.put, List.setIfInBounds_toArray, List.set_cons_zero, List.set_cons_succ]
            refine mix_w rfl rfl (fun K hK => ?_)
            go_simp
            refine (own_any A1 n1 c1 xs _ (Q1.out.ext T) hn1.out hc1).mono ?_
            rintro e w40 ⟨v, rfl, hO, hE⟩
            refine hK _ _ (T.trans (hE.mono T.size)) ?_
            clear hK K
            try simp only [Act.put, List.setIfInBounds_toArray, List.set_cons_zero, List.set_cons_succ]
            replace T := T.trans (hE.mono T.size)
            rw [← ha.out] at hO
            obtain ⟨A33, c33, rfl, r33, hc33, -⟩ := hO.rd
            obtain ⟨n33, e33⟩ : ∃ m, m = (List.length a) := ⟨_, rfl⟩
            rw [← e33] at hc33 ⊢
            replace r33 := hide r33
            replace e33 := hide e33
            clear hO
            clear hE
            refine mix_w rfl rfl (fun K hK => ?_)
            go_simp
            refine (refSame_any A7 A33 n7 c7 n33 c33 a a _ (R7.out.ext T) e7.out hl7 r33.out e33.out).mono ?_
            rintro e w41 ⟨rfl, hE⟩
            refine hK _ _ (T.trans (hE.mono T.size)) ?_
            clear hK K
            try simp only [Act.put, List.setIfInBounds_toArray, List.set_cons_zero, List.set_cons_succ]
            replace T := T.trans (hE.mono T.size)
            clear hE r33 e33 hc33
            iterate 1
              apply mix_q rfl rfl
              · intro W hW
                have hcW := (bcell hW).1
                go_simp
                try exact rfl
              simp only [Act.put, List.setIfInBounds_toArray, List.set_cons_zero, List.set_cons_succ]
            refine mix_nil ?_
            go_wp2
            go_ret
            exact ⟨rfl, hB.out.trans ((T0.out.trans (T.mono T0.out.size)).mono hB.out.size)⟩
end Go.Proofs.YtpfmbehhppbcnaaDoor
