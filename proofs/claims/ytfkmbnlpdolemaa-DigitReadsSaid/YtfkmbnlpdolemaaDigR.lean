/- The document's own words on numbers and texts: yardarmref01's Text, Head, above, Looks, Read. -/
import Derived.Test.YtfkmbnlpdolemaaDigB2
namespace Go.Proofs.Ytfkmbnlpdolemaa
open Go.RowKit Go.Lib

set_option maxHeartbeats 1000000 in
theorem refDigits_any : ∀ (f m : Nat), m < f → m < 18446744073709551616 → ∀ w : World,
    Calls Try.prog 25 #[.int .u64 m] w fun e w' => e = .returned (.string (bs (dig m))) ∧ Ext w w'
  | 0, m, hf, _, _ => by omega
  | f + 1, m, hf, hm, w => by
    have hone : Rd u8E (w.alloc (.cells #[.int .u8 (48 + (m : Int) % 10)] 5)).heap.size (w.alloc (.cells #[.int .u8 (48 + (m : Int) % 10)] 5)) (some ⟨w.heap.size, 0, none⟩) [48 + (m : Int) % 10] := by
      have := own_new (base := 0) (e := 5) u8E w (48 + (m : Int) % 10) w.heap.size rfl (Nat.zero_le _)
      obtain ⟨A, c, hv, hr, -, -⟩ := this.rd
      injection hv with h1 h2 h3
      subst h1
      exact hr
    have hE1 : Ext w (w.alloc (.cells #[.int .u8 (48 + (m : Int) % 10)] 5)) := (Below.refl _ _).alloc (Nat.le_refl _) _
    replace hone := hide hone
    by_cases h10 : m < 10
    · go_enter Try.func25, Try.ntmps25
      go_wp2_with (simp only [text_of (n := 1) hone.out rfl])
      go_ret
      refine ⟨?_, hE1⟩
      rw [dig, if_pos h10, show (m : Int) % 10 = (m : Int) by omega]
      rfl
    · have h10' : ¬ (m : Int) < 10 := by omega
      have ih := refDigits_any f (m / 10) (by omega) (by omega) (w.alloc (.cells #[.int .u8 (48 + (m : Int) % 10)] 5))
      rw [show ((m / 10 : Nat) : Int) = (m : Int) / 10 by omega] at ih
      have hsz : ¬ 9223372036854775807 < (bs (dig (m / 10))).size + (bs [48 + (m : Int) % 10]).size := by
        rw [bs_size, bs_size]
        have := dig_le 20 (m / 10) (by omega) (by decide)
        simp
        omega
      have hd : bs (dig m) = bs (dig (m / 10)) ++ bs [48 + (m : Int) % 10] := by
        rw [dig, if_neg h10, bs_append]
        simp
      replace ih := hide ih
      replace hd := hide hd
      generalize bs (dig (m / 10)) = a at *
      have hb : bs [48 + (m : Int) % 10] = bs [48 + (m : Int) % 10] := rfl
      generalize hbb : bs [48 + (m : Int) % 10] = b at *
      replace hbb := hide hbb
      go_enter Try.func25, Try.ntmps25
      go_wp2_with (first | (simp only [text_of (n := 1) hone.out rfl, hbb.out]) | (go_at_call 25; refine ih.out.mono ?_; rintro e w1 ⟨rfl, hE2⟩))
      go_ret
      exact ⟨by rw [hd.out]; rfl, hE1.trans (hE2.mono hE1.size)⟩

set_option maxHeartbeats 1000000 in
theorem refText_any (n : Int) (hn : in64 n) (w : World) :
    Calls Try.prog 10 #[.int .i64 n] w fun e w' => e = .returned (.string (bs (txt n))) ∧ Ext w w' := by
  have hs : ¬ 9223372036854775807 < ByteArray.size ⟨#[45]⟩ + (bs (dig n.natAbs)).size := by
    rw [bs_size]
    have := dig_le 20 n.natAbs (by unfold in64 at hn; omega) (by decide)
    have e : ByteArray.size ⟨#[45]⟩ = 1 := rfl
    omega
  by_cases h0 : 0 ≤ n
  · have hw : IntKind.u64.wrap n = (n.natAbs : Int) := by rw [IntKind.wrap_u64]; unfold in64 at hn; omega
    have ht : txt n = dig n.natAbs := by unfold txt; rw [if_neg (by omega)]
    have hl : n.natAbs < 18446744073709551616 := by unfold in64 at hn; omega
    generalize hN : n.natAbs = N at *
    clear hs
    replace hN := hide hN
    replace ht := hide ht
    replace hn := hide hn
    go_enter Try.func10, Try.ntmps10
    go_wp2_with fail
    refine (refDigits_any (N + 1) N (by omega) hl _).mono ?_
    rintro e w1 ⟨rfl, hE⟩
    go_wp2
    go_ret
    exact ⟨by rw [ht.out]; rfl, hE⟩
  · have s1 : IntKind.i64.wrap (n + 1) = n + 1 := IntWalk.i64_in _ (by unfold in64 at hn; omega)
    have s2 : IntKind.i64.wrap (-(n + 1)) = -(n + 1) := IntWalk.i64_in _ (by unfold in64 at hn; omega)
    have s3 : IntKind.u64.wrap (-(n + 1)) = -(n + 1) := by rw [IntKind.wrap_u64]; unfold in64 at hn; omega
    have s4 : IntKind.u64.wrap (-(n + 1) + 1) = (n.natAbs : Int) := by rw [IntKind.wrap_u64]; unfold in64 at hn; omega
    have ht : txt n = 45 :: dig n.natAbs := by unfold txt; rw [if_pos (by omega)]
    have hl : n.natAbs < 18446744073709551616 := by unfold in64 at hn; omega
    generalize hN : n.natAbs = N at *
    replace hN := hide hN
    replace ht := hide ht
    replace hn := hide hn
    replace hs := hide hs
    go_enter Try.func10, Try.ntmps10
    go_wp2_with fail
    refine (refDigits_any (N + 1) N (by omega) hl _).mono ?_
    rintro e w1 ⟨rfl, hE⟩
    replace hs := hs.out
    go_wp2
    go_ret
    exact ⟨by rw [ht.out]; rfl, hE⟩

theorem drop_get {L : List Int} {k e : Nat} (h : k ≤ e) : (L.drop k)[e - k]? = L[e]? := by
  rw [List.getElem?_drop]
  congr 1
  omega
set_option maxHeartbeats 2000000 in
theorem refHead_any (s : ByteArray) (hl : s.size ≤ 1000000000) (w : World) :
    Calls Try.prog 16 #[.string s] w fun e w' => e = .returned (.tuple #[.string (s.extract 0 (headEnd (nums s))), .string (s.extract (headEnd (nums s)) s.size)]) ∧ Ext w w' := by
  by_cases hs0 : s.size = 0
  · have hse : s = ⟨#[]⟩ := by
      apply ByteArray.ext
      exact Array.eq_empty_of_size_eq_zero hs0
    subst hse
    go_enter Try.func16, Try.ntmps16
    go_wp2
    refine wp_loop_rounds 1 ?_
    rw [rounds_succ]
    go_wp2
    refine wp_region_reads [(0, true), (1, true), (2, true), (3, true), (4, true), (5, true), (6, true), (7, true)] (by kernel_rfl) (by kernel_rfl) (by kernel_rfl) (by kernel_rfl) (fun _ _ d _ _ h => by cases d <;> exact h) ?_
    iterate 8
      apply mix_q rfl rfl
      · intro W hW
        subst hW
        go_simp
        try exact rfl
      simp only [Act.put, List.setIfInBounds_toArray, List.set_cons_zero, List.set_cons_succ]
    refine mix_nil ?_
    go_wp2
    go_ret2
    exact ⟨rfl, (Below.refl _ _).drew⟩
  · have hpos : 0 < s.size := by omega
    have hne := filled hpos
    obtain ⟨b0, hb0⟩ : ∃ b0, b0 = (s[0]'hpos).toNat := ⟨_, rfl⟩
    have hx0 : (s[0]'hpos).toNat = b0 := hb0.symm
    have hL0 : (nums s)[0]? = some (b0 : Int) := by rw [at_byte hpos, hx0]
    replace hb0 := hide hb0
    by_cases h45 : b0 = 45
    · subst h45
      have hsg : sg (nums s) = 1 := by
        unfold sg
        rw [List.head?_eq_getElem?, hL0]
        rfl
      replace hL0 := hide hL0
      replace hsg := hide hsg
      go_enter Try.func16, Try.ntmps16
      go_wp2
      go_loopw [5] (fun i wr => ∃ e : Nat, i = .int .i64 e ∧ 1 ≤ e ∧ e ≤ 1 + nd ((nums s).drop 1) ∧ e ≤ s.size ∧ wr = w) (fun i _ => s.size - (intOf i).toNat)
      case atStart => exact ⟨1, rfl, Nat.le_refl _, Nat.le_add_right _ _, by omega, rfl⟩
      case round =>
        obtain ⟨e, rfl, hfe, hen, hes, rfl⟩ := hrel
        by_cases hlt : e < s.size
        · obtain ⟨b, hb⟩ : ∃ b, b = (s[e]'hlt).toNat := ⟨_, rfl⟩
          have hxe : (s[e]'hlt).toNat = b := hb.symm
          have hLe : (nums s)[e]? = some (b : Int) := by rw [at_byte hlt, hxe]
          replace hb := hide hb
          by_cases hd : 48 ≤ b ∧ b ≤ 57
          · obtain ⟨hd1, hd2⟩ := hd
            have hne : e ≠ 1 + nd ((nums s).drop 1) := by
              intro h
              have := nd_stop ((nums s).drop 1) b (by rw [List.getElem?_drop, ← h]; exact hLe)
              unfold isD at this
              simp at this
              omega
            have hi1 : (48 : Int) ≤ (b : Int) := by omega
            have hi2 : (b : Int) ≤ 57 := by omega
            replace hLe := hide hLe
            replace hen : e + 1 ≤ 1 + nd ((nums s).drop 1) := by omega
            have hen' := hide hen
            clear hen hne
            go_wp2
            have hw1 : IntKind.i64.wrap ((e : Int) + 1) = (e : Int) + 1 := IntWalk.i64_in _ (by omega)
            refine ⟨?_, ?_⟩
            · first
                | exact ⟨e + 1, by go_num, by omega, hen'.out, by omega, trivial⟩
                | ((repeat apply Exists.intro); exact ⟨⟨e + 1, by go_num, by omega, hen'.out, by omega, trivial⟩, rfl⟩)
            · first | (simp [intOf, lenV]; omega) | (simp [intOf]; omega)
          · have hend : e = 1 + nd ((nums s).drop 1) := by
              rcases Nat.lt_or_ge e (1 + nd ((nums s).drop 1)) with h | h
              · obtain ⟨b', hb', hbd⟩ := nd_at ((nums s).drop 1) (e - 1) (by omega)
                rw [drop_get hfe, hLe] at hb'
                cases hb'
                unfold isD at hbd
                simp at hbd
                omega
              · omega
            replace hLe := hide hLe
            clear hen
            replace hend := hide hend
            by_cases h48 : 48 ≤ b
            · have h57 : ¬ b ≤ 57 := fun h => hd ⟨h48, h⟩
              have hi1 : (48 : Int) ≤ (b : Int) := by omega
              have hi2 : ¬ (b : Int) ≤ 57 := by omega
              by_cases hz : e = 1
              · subst hz
                have hk : headEnd (nums s) = 0 := by
                  unfold headEnd
                  rw [hsg.out, if_pos (by have := hend.out; omega)]
                replace hk := hide hk
                go_wp2
                refine wp_region_reads [(0, true), (1, true), (2, true), (3, true), (4, true), (5, true), (6, true), (7, true)] (by kernel_rfl) (by kernel_rfl) (by kernel_rfl) (by kernel_rfl) (fun _ _ d _ _ h => by cases d <;> exact h) ?_
                iterate 8
                  apply mix_q rfl rfl
                  · intro W hW
                    subst hW
                    go_simp
                    try exact rfl
                  simp only [Act.put, List.setIfInBounds_toArray, List.set_cons_zero, List.set_cons_succ]
                refine mix_nil ?_
                go_wp2
                go_ret2
                exact ⟨by rw [hk.out, ext_zero, ext_all]; rfl, (Below.refl _ _).drew⟩
              · have hk : headEnd (nums s) = e := by
                  unfold headEnd
                  have := hend.out
                  rw [hsg.out, if_neg (by omega)]
                  omega
                replace hk := hide hk
                have hz' : ¬ (e : Int) = 1 := by omega
                go_wp2
                refine wp_region_reads [(0, true), (1, true), (2, true), (3, true), (4, true), (5, true), (6, true), (7, true)] (by kernel_rfl) (by kernel_rfl) (by kernel_rfl) (by kernel_rfl) (fun _ _ d _ _ h => by cases d <;> exact h) ?_
                iterate 8
                  apply mix_q rfl rfl
                  · intro W hW
                    subst hW
                    go_simp
                    try exact rfl
                  simp only [Act.put, List.setIfInBounds_toArray, List.set_cons_zero, List.set_cons_succ]
                refine mix_nil ?_
                go_wp2
                go_ret2
                exact ⟨by rw [hk.out]; rfl, (Below.refl _ _).drew⟩
            · have hi1 : ¬ (48 : Int) ≤ (b : Int) := by omega
              by_cases hz : e = 1
              · subst hz
                have hk : headEnd (nums s) = 0 := by
                  unfold headEnd
                  rw [hsg.out, if_pos (by have := hend.out; omega)]
                replace hk := hide hk
                go_wp2
                refine wp_region_reads [(0, true), (1, true), (2, true), (3, true), (4, true), (5, true), (6, true), (7, true)] (by kernel_rfl) (by kernel_rfl) (by kernel_rfl) (by kernel_rfl) (fun _ _ d _ _ h => by cases d <;> exact h) ?_
                iterate 8
                  apply mix_q rfl rfl
                  · intro W hW
                    subst hW
                    go_simp
                    try exact rfl
                  simp only [Act.put, List.setIfInBounds_toArray, List.set_cons_zero, List.set_cons_succ]
                refine mix_nil ?_
                go_wp2
                go_ret2
                exact ⟨by rw [hk.out, ext_zero, ext_all]; rfl, (Below.refl _ _).drew⟩
              · have hk : headEnd (nums s) = e := by
                  unfold headEnd
                  have := hend.out
                  rw [hsg.out, if_neg (by omega)]
                  omega
                replace hk := hide hk
                have hz' : ¬ (e : Int) = 1 := by omega
                go_wp2
                refine wp_region_reads [(0, true), (1, true), (2, true), (3, true), (4, true), (5, true), (6, true), (7, true)] (by kernel_rfl) (by kernel_rfl) (by kernel_rfl) (by kernel_rfl) (fun _ _ d _ _ h => by cases d <;> exact h) ?_
                iterate 8
                  apply mix_q rfl rfl
                  · intro W hW
                    subst hW
                    go_simp
                    try exact rfl
                  simp only [Act.put, List.setIfInBounds_toArray, List.set_cons_zero, List.set_cons_succ]
                refine mix_nil ?_
                go_wp2
                go_ret2
                exact ⟨by rw [hk.out]; rfl, (Below.refl _ _).drew⟩
        · have hend : e = 1 + nd ((nums s).drop 1) := by
            have := nd_le ((nums s).drop 1)
            rw [List.length_drop, nums_length] at this
            omega
          replace hend := hide hend
          clear hen
          by_cases hz : e = 1
          · subst hz
            have hk : headEnd (nums s) = 0 := by
              unfold headEnd
              rw [hsg.out, if_pos (by have := hend.out; omega)]
            replace hk := hide hk
            go_wp2
            refine wp_region_reads [(0, true), (1, true), (2, true), (3, true), (4, true), (5, true), (6, true), (7, true)] (by kernel_rfl) (by kernel_rfl) (by kernel_rfl) (by kernel_rfl) (fun _ _ d _ _ h => by cases d <;> exact h) ?_
            iterate 8
              apply mix_q rfl rfl
              · intro W hW
                subst hW
                go_simp
                try exact rfl
              simp only [Act.put, List.setIfInBounds_toArray, List.set_cons_zero, List.set_cons_succ]
            refine mix_nil ?_
            go_wp2
            go_ret2
            exact ⟨by rw [hk.out, ext_zero, ext_all]; rfl, (Below.refl _ _).drew⟩
          · have hk : headEnd (nums s) = e := by
              unfold headEnd
              have := hend.out
              rw [hsg.out, if_neg (by omega)]
              omega
            replace hk := hide hk
            have hz' : ¬ (e : Int) = 1 := by omega
            go_wp2
            refine wp_region_reads [(0, true), (1, true), (2, true), (3, true), (4, true), (5, true), (6, true), (7, true)] (by kernel_rfl) (by kernel_rfl) (by kernel_rfl) (by kernel_rfl) (fun _ _ d _ _ h => by cases d <;> exact h) ?_
            iterate 8
              apply mix_q rfl rfl
              · intro W hW
                subst hW
                go_simp
                try exact rfl
              simp only [Act.put, List.setIfInBounds_toArray, List.set_cons_zero, List.set_cons_succ]
            refine mix_nil ?_
            go_wp2
            go_ret2
            exact ⟨by rw [hk.out]; rfl, (Below.refl _ _).drew⟩
    · have hsg : sg (nums s) = 0 := by
        unfold sg
        rw [List.head?_eq_getElem?, hL0, if_neg]
        intro e
        injection e with e
        omega
      have h45i : ((b0 : Int) == 45) = false := by rw [beq_eq_false_iff_ne]; omega
      replace hL0 := hide hL0
      replace hsg := hide hsg
      go_enter Try.func16, Try.ntmps16
      go_wp2
      go_loopw [5] (fun i wr => ∃ e : Nat, i = .int .i64 e ∧ 0 ≤ e ∧ e ≤ 0 + nd ((nums s).drop 0) ∧ e ≤ s.size ∧ wr = w) (fun i _ => s.size - (intOf i).toNat)
      case atStart => exact ⟨0, rfl, Nat.le_refl _, Nat.le_add_right _ _, by omega, rfl⟩
      case round =>
        obtain ⟨e, rfl, hfe, hen, hes, rfl⟩ := hrel
        by_cases hlt : e < s.size
        · obtain ⟨b, hb⟩ : ∃ b, b = (s[e]'hlt).toNat := ⟨_, rfl⟩
          have hxe : (s[e]'hlt).toNat = b := hb.symm
          have hLe : (nums s)[e]? = some (b : Int) := by rw [at_byte hlt, hxe]
          replace hb := hide hb
          by_cases hd : 48 ≤ b ∧ b ≤ 57
          · obtain ⟨hd1, hd2⟩ := hd
            have hne : e ≠ 0 + nd ((nums s).drop 0) := by
              intro h
              have := nd_stop ((nums s).drop 0) b (by rw [List.getElem?_drop, ← h]; exact hLe)
              unfold isD at this
              simp at this
              omega
            have hi1 : (48 : Int) ≤ (b : Int) := by omega
            have hi2 : (b : Int) ≤ 57 := by omega
            replace hLe := hide hLe
            replace hen : e + 1 ≤ 0 + nd ((nums s).drop 0) := by omega
            have hen' := hide hen
            clear hen hne
            go_wp2
            have hw1 : IntKind.i64.wrap ((e : Int) + 1) = (e : Int) + 1 := IntWalk.i64_in _ (by omega)
            refine ⟨?_, ?_⟩
            · first
                | exact ⟨e + 1, by go_num, by omega, hen'.out, by omega, trivial⟩
                | ((repeat apply Exists.intro); exact ⟨⟨e + 1, by go_num, by omega, hen'.out, by omega, trivial⟩, rfl⟩)
            · first | (simp [intOf, lenV]; omega) | (simp [intOf]; omega)
          · have hend : e = 0 + nd ((nums s).drop 0) := by
              rcases Nat.lt_or_ge e (0 + nd ((nums s).drop 0)) with h | h
              · obtain ⟨b', hb', hbd⟩ := nd_at ((nums s).drop 0) (e - 0) (by omega)
                rw [drop_get hfe, hLe] at hb'
                cases hb'
                unfold isD at hbd
                simp at hbd
                omega
              · omega
            replace hLe := hide hLe
            clear hen
            replace hend := hide hend
            by_cases h48 : 48 ≤ b
            · have h57 : ¬ b ≤ 57 := fun h => hd ⟨h48, h⟩
              have hi1 : (48 : Int) ≤ (b : Int) := by omega
              have hi2 : ¬ (b : Int) ≤ 57 := by omega
              by_cases hz : e = 0
              · subst hz
                have hk : headEnd (nums s) = 0 := by
                  unfold headEnd
                  rw [hsg.out, if_pos (by have := hend.out; omega)]
                replace hk := hide hk
                go_wp2
                refine wp_region_reads [(0, true), (1, true), (2, true), (3, true), (4, true), (5, true), (6, true), (7, true)] (by kernel_rfl) (by kernel_rfl) (by kernel_rfl) (by kernel_rfl) (fun _ _ d _ _ h => by cases d <;> exact h) ?_
                iterate 8
                  apply mix_q rfl rfl
                  · intro W hW
                    subst hW
                    go_simp
                    try exact rfl
                  simp only [Act.put, List.setIfInBounds_toArray, List.set_cons_zero, List.set_cons_succ]
                refine mix_nil ?_
                go_wp2
                go_ret2
                exact ⟨by rw [hk.out, ext_zero, ext_all]; rfl, (Below.refl _ _).drew⟩
              · have hk : headEnd (nums s) = e := by
                  unfold headEnd
                  have := hend.out
                  rw [hsg.out, if_neg (by omega)]
                  omega
                replace hk := hide hk
                have hz' : ¬ (e : Int) = 0 := by omega
                go_wp2
                refine wp_region_reads [(0, true), (1, true), (2, true), (3, true), (4, true), (5, true), (6, true), (7, true)] (by kernel_rfl) (by kernel_rfl) (by kernel_rfl) (by kernel_rfl) (fun _ _ d _ _ h => by cases d <;> exact h) ?_
                iterate 8
                  apply mix_q rfl rfl
                  · intro W hW
                    subst hW
                    go_simp
                    try exact rfl
                  simp only [Act.put, List.setIfInBounds_toArray, List.set_cons_zero, List.set_cons_succ]
                refine mix_nil ?_
                go_wp2
                go_ret2
                exact ⟨by rw [hk.out]; rfl, (Below.refl _ _).drew⟩
            · have hi1 : ¬ (48 : Int) ≤ (b : Int) := by omega
              by_cases hz : e = 0
              · subst hz
                have hk : headEnd (nums s) = 0 := by
                  unfold headEnd
                  rw [hsg.out, if_pos (by have := hend.out; omega)]
                replace hk := hide hk
                go_wp2
                refine wp_region_reads [(0, true), (1, true), (2, true), (3, true), (4, true), (5, true), (6, true), (7, true)] (by kernel_rfl) (by kernel_rfl) (by kernel_rfl) (by kernel_rfl) (fun _ _ d _ _ h => by cases d <;> exact h) ?_
                iterate 8
                  apply mix_q rfl rfl
                  · intro W hW
                    subst hW
                    go_simp
                    try exact rfl
                  simp only [Act.put, List.setIfInBounds_toArray, List.set_cons_zero, List.set_cons_succ]
                refine mix_nil ?_
                go_wp2
                go_ret2
                exact ⟨by rw [hk.out, ext_zero, ext_all]; rfl, (Below.refl _ _).drew⟩
              · have hk : headEnd (nums s) = e := by
                  unfold headEnd
                  have := hend.out
                  rw [hsg.out, if_neg (by omega)]
                  omega
                replace hk := hide hk
                have hz' : ¬ (e : Int) = 0 := by omega
                go_wp2
                refine wp_region_reads [(0, true), (1, true), (2, true), (3, true), (4, true), (5, true), (6, true), (7, true)] (by kernel_rfl) (by kernel_rfl) (by kernel_rfl) (by kernel_rfl) (fun _ _ d _ _ h => by cases d <;> exact h) ?_
                iterate 8
                  apply mix_q rfl rfl
                  · intro W hW
                    subst hW
                    go_simp
                    try exact rfl
                  simp only [Act.put, List.setIfInBounds_toArray, List.set_cons_zero, List.set_cons_succ]
                refine mix_nil ?_
                go_wp2
                go_ret2
                exact ⟨by rw [hk.out]; rfl, (Below.refl _ _).drew⟩
        · have hend : e = 0 + nd ((nums s).drop 0) := by
            have := nd_le ((nums s).drop 0)
            rw [List.length_drop, nums_length] at this
            omega
          replace hend := hide hend
          clear hen
          have hz : ¬ e = 0 := by omega
          have hk : headEnd (nums s) = e := by
            unfold headEnd
            have := hend.out
            rw [hsg.out, if_neg (by omega)]
            omega
          replace hk := hide hk
          have hz' : ¬ (e : Int) = 0 := by omega
          go_wp2
          refine wp_region_reads [(0, true), (1, true), (2, true), (3, true), (4, true), (5, true), (6, true), (7, true)] (by kernel_rfl) (by kernel_rfl) (by kernel_rfl) (by kernel_rfl) (fun _ _ d _ _ h => by cases d <;> exact h) ?_
          iterate 8
            apply mix_q rfl rfl
            · intro W hW
              subst hW
              go_simp
              try exact rfl
            simp only [Act.put, List.setIfInBounds_toArray, List.set_cons_zero, List.set_cons_succ]
          refine mix_nil ?_
          go_wp2
          go_ret2
          exact ⟨by rw [hk.out]; rfl, (Below.refl _ _).drew⟩
end Go.Proofs.Ytfkmbnlpdolemaa
