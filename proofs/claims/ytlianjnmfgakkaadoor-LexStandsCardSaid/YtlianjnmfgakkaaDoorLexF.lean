/- lex.skip and lex.long. -/
import Derived.Test.YtlianjnmfgakkaaDoorLexC
import Derived.Test.YtlianjnmfgakkaaDoorLxN
import Derived.Test.YtlianjnmfgakkaaDoorMix
namespace Go.Proofs.YtlianjnmfgakkaaDoor
open Go.RowKit Go.Lib

theorem goes_number : Goes 25 digB := fun c W => numB_any c W
theorem goes_eith : Goes 27 eitherB := fun c W => either_any c W
theorem enter_number (args : Array Value) (w : World) : (callFunc 25 args).run Tryd.prog w = .ok (.enter 25 args) w := enters_of Tryd.func25 (by kernel_rfl) rfl args w
theorem enter_blank (args : Array Value) (w : World) : (callFunc 32 args).run Tryd.prog w = .ok (.enter 32 args) w := enters_of Tryd.func32 (by kernel_rfl) rfl args w
theorem enter_rem (args : Array Value) (w : World) : (callFunc 53 args).run Tryd.prog w = .ok (.enter 53 args) w := enters_of Tryd.func53 (by kernel_rfl) rfl args w
theorem blank_any (c : Nat) (w : World) : Calls Tryd.prog 32 #[.int .i32 (c : Int)] w fun e w' => e = .returned (.bool (blankB c)) ∧ w' = w := by
  by_cases h1 : c = 32
  · subst h1
    go_enter Tryd.func32, Tryd.ntmps32
    go_wp2
    go_ret
    exact ⟨rfl, rfl⟩
  · have g1 : ((c : Int) == 32) = false := by rw [beq_eq_false_iff_ne]; omega
    have g2 : ¬ (c : Int) = 32 := by omega
    by_cases h2 : c = 9
    · subst h2
      go_enter Tryd.func32, Tryd.ntmps32
      go_wp2
      go_ret
      exact ⟨rfl, rfl⟩
    · have g3 : ((c : Int) == 9) = false := by rw [beq_eq_false_iff_ne]; omega
      have g4 : ¬ (c : Int) = 9 := by omega
      have hm : Hid (blankB c = false) := hide (by unfold blankB; rw [decide_eq_false h1, decide_eq_false h2]; rfl)
      go_enter Tryd.func32, Tryd.ntmps32
      go_wp2
      go_ret
      exact ⟨by rw [hm.out]; rfl, rfl⟩
theorem rem_any (c : Nat) (w : World) : Calls Tryd.prog 53 #[.int .i32 (c : Int)] w fun e w' => e = .returned (.bool (remB c)) ∧ w' = w := by
  by_cases h1 : 32 ≤ c
  · have g1 : (32 : Int) ≤ (c : Int) := by omega
    have hm : Hid (remB c = true) := hide (by unfold remB; rw [decide_eq_true h1]; rfl)
    go_enter Tryd.func53, Tryd.ntmps53
    go_wp2
    go_ret
    exact ⟨by rw [hm.out]; rfl, rfl⟩
  · have g1 : ¬ (32 : Int) ≤ (c : Int) := by omega
    by_cases h2 : c = 9
    · subst h2
      go_enter Tryd.func53, Tryd.ntmps53
      go_wp2
      go_ret
      exact ⟨rfl, rfl⟩
    · have g3 : ((c : Int) == 9) = false := by rw [beq_eq_false_iff_ne]; omega
      have g4 : ¬ (c : Int) = 9 := by omega
      have hm : Hid (remB c = false) := hide (by unfold remB; rw [decide_eq_false h1, decide_eq_false h2]; rfl)
      go_enter Tryd.func53, Tryd.ntmps53
      go_wp2
      go_ret
      exact ⟨by rw [hm.out]; rfl, rfl⟩
theorem goes_blank : Goes 32 blankB := fun c W => blank_any c W
theorem goes_rem : Goes 53 remB := fun c W => rem_any c W
set_option maxRecDepth 100000 in
set_option maxHeartbeats 4000000 in
theorem skip_any (s : ByteArray) (p : Nat) (hp : p ≤ s.size) (hm : s.size ≤ 1000000000) (w : World) (hU : LaidU w) :
    Calls Tryd.prog 31 #[.string s, .int .i64 (p : Int)] w fun e w' => e = .returned (.tuple #[.int .i64 ((skipN s p).1 : Int), .bool (skipN s p).2]) ∧ Ext w w' := by
  have hle := stp_le s blankB p hp
  have hwt := while_tail s blankB p hp
  have hmx : 1000000000 ≤ maxLen := by decide
  have hsz : (s.extract p s.size).size ≤ maxLen := by simp; omega
  have hp' : (p : Int) ≤ (s.size : Int) := by omega
  have hsk : skipN s p = if stp s blankB p < s.size ∧ byt s (stp s blankB p) = 35 then (stp s remB (stp s blankB p), decide (stp s remB (stp s blankB p) = s.size) || decide (byt s (stp s remB (stp s blankB p)) = 10)) else (stp s blankB p, true) := rfl
  obtain ⟨a, ha⟩ : ∃ a, a = stp s blankB p := ⟨_, rfl⟩
  rw [← ha] at hwt hle hsk
  replace hsk := hide hsk
  replace hU := hide hU
  replace hm := hide hm
  replace hmx := hide hmx
  replace ha := hide ha
  go_enter Tryd.func31, Tryd.ntmps31
  go_wp2_with fail
  refine (while_any _ 32 blankB goes_blank enter_blank hsz _ hU.out).mono ?_
  rintro e w1 ⟨rfl, hE1⟩
  obtain ⟨q, hq⟩ : ∃ q, q = whileN (s.extract p s.size) blankB := ⟨_, rfl⟩
  rw [← hq] at hwt ⊢
  have u1 : IntKind.i64.wrap ((p : Int) + (q : Int)) = (a : Int) := by rw [IntWalk.i64_in _ (by have := hm.out; have := hmx.out; omega)]; omega
  have hU1 := hide (hU.out.ext hE1)
  replace hq := hide hq
  replace hE1 := hide hE1
  replace hsz := hide hsz
  clear hU hwt
  by_cases hlt : a < s.size
  · have hlt' : (a : Int) < (s.size : Int) := by omega
    have g1 : ((a : Int) == (s.size : Int)) = false := by rw [beq_eq_false_iff_ne]; omega
    have g2 : ¬ (a : Int) = (s.size : Int) := by omega
    have hla := hide hle
    obtain ⟨b, hb⟩ : ∃ b, b = byt s a := ⟨_, rfl⟩
    have hx : (s[a]'hlt).toNat = b := by rw [hb]; exact byt_at hlt
    by_cases h35 : b = 35
    · have hsk2 : Hid (skipN s p = (stp s remB a, decide (stp s remB a = s.size) || decide (byt s (stp s remB a) = 10))) := hide (by rw [hsk.out, if_pos ⟨hlt, by rw [← hb]; exact h35⟩])
      have hsz2 : (s.extract a s.size).size ≤ maxLen := by have := hm.out; have := hmx.out; simp; omega
      have hle2 := stp_le s remB a (by omega)
      have hwt2 := while_tail s remB a (by omega)
      replace hb := hide hb
      replace hla := hide hla
      subst h35
      go_wp2_with fail
      refine (while_any _ 53 remB goes_rem enter_rem hsz2 _ hU1.out).mono ?_
      rintro e w2 ⟨rfl, hE2⟩
      obtain ⟨q2, hq2⟩ : ∃ q, q = whileN (s.extract a s.size) remB := ⟨_, rfl⟩
      obtain ⟨c, hc⟩ : ∃ c, c = stp s remB a := ⟨_, rfl⟩
      rw [← hq2] at hwt2 ⊢
      rw [← hc] at hwt2 hle2 hsk2
      have u2 : IntKind.i64.wrap ((a : Int) + (q2 : Int)) = (c : Int) := by rw [IntWalk.i64_in _ (by have := hm.out; have := hmx.out; omega)]; omega
      have hEE := hide (hE1.out.trans (hE2.mono hE1.out.size))
      replace hq2 := hide hq2
      replace hc := hide hc
      replace hE2 := hide hE2
      replace hsz2 := hide hsz2
      clear hwt2
      by_cases hl2 : c < s.size
      · have hl2' : (c : Int) < (s.size : Int) := by omega
        have k1 : ((c : Int) == (s.size : Int)) = false := by rw [beq_eq_false_iff_ne]; omega
        have k2 : ¬ (c : Int) = (s.size : Int) := by omega
        obtain ⟨d, hd⟩ : ∃ d, d = byt s c := ⟨_, rfl⟩
        have hx2 : (s[c]'hl2).toNat = d := by rw [hd]; exact byt_at hl2
        have hr : Hid (skipN s p = (c, decide (d = 10))) := hide (by rw [hsk2.out, decide_eq_false (by omega), Bool.false_or, ← hd])
        have hd10 : Hid (((d : Int) == 10) = decide (d = 10)) := hide (by rw [Bool.eq_iff_iff, beq_iff_eq, decide_eq_true_iff]; omega)
        replace hd := hide hd
        go_wp2_with fail
        refine wp_region_reads [(0, true), (1, true), (2, true), (3, true), (4, true), (5, true), (6, true), (7, true), (8, true), (9, true), (10, true), (11, true), (12, true)] (by kernel_rfl) (by kernel_rfl) (by kernel_rfl) (by kernel_rfl) (fun _ _ d _ _ h => by cases d <;> exact h) ?_
        iterate 6
          apply mix_q rfl rfl
          · intro W hW
            subst hW
            go_simp
            try exact rfl
          simp only [Act.put, List.setIfInBounds_toArray, List.set_cons_zero, List.set_cons_succ]
        iterate 4
          apply mix_on rfl (wanted_is rfl rfl rfl rfl rfl)
          · intro W hW
            subst hW
            go_simp
            try exact rfl
          simp only [Act.put, List.setIfInBounds_toArray, List.set_cons_zero, List.set_cons_succ]
        iterate 3
          apply mix_q rfl rfl
          · intro W hW
            subst hW
            go_simp
            try exact rfl
          simp only [Act.put, List.setIfInBounds_toArray, List.set_cons_zero, List.set_cons_succ]
        refine mix_nil ?_
        go_wp2
        go_ret2
        refine ⟨?_, hEE.out.trans (Below.refl _ _).drew⟩
        rw [hr.out, ← hd10.out]
        try rfl
      · have hl3 : c = s.size := by omega
        have hr : Hid (skipN s p = (s.size, true)) := hide (by rw [hsk2.out, decide_eq_true hl3, Bool.true_or, hl3])
        subst hl3
        go_wp2_with fail
        refine wp_region_reads [(0, true), (1, true), (2, true), (3, true), (4, true), (5, true), (6, true), (7, true), (8, true), (9, true), (10, true), (11, true), (12, true)] (by kernel_rfl) (by kernel_rfl) (by kernel_rfl) (by kernel_rfl) (fun _ _ d _ _ h => by cases d <;> exact h) ?_
        iterate 6
          apply mix_q rfl rfl
          · intro W hW
            subst hW
            go_simp
            try exact rfl
          simp only [Act.put, List.setIfInBounds_toArray, List.set_cons_zero, List.set_cons_succ]
        iterate 4
          refine mix_off rfl (wanted_is rfl rfl rfl rfl rfl) ?_
          simp only [Act.put, List.setIfInBounds_toArray, List.set_cons_zero, List.set_cons_succ]
        iterate 3
          apply mix_q rfl rfl
          · intro W hW
            subst hW
            go_simp
            try exact rfl
          simp only [Act.put, List.setIfInBounds_toArray, List.set_cons_zero, List.set_cons_succ]
        refine mix_nil ?_
        go_wp2
        go_ret2
        refine ⟨?_, hEE.out.trans (Below.refl _ _).drew⟩
        rw [hr.out]
        try rfl
    · have hr : Hid (skipN s p = (a, true)) := hide (by rw [hsk.out, if_neg (by rw [← hb]; exact fun h => h35 h.2)])
      have g3 : ((b : Int) == 35) = false := by rw [beq_eq_false_iff_ne]; omega
      have g4 : ((b : Int) != 35) = true := by rw [bne, g3]; rfl
      have g5 : ¬ (b : Int) = 35 := by omega
      replace hb := hide hb
      replace hla := hide hla
      replace h35 := hide h35
      go_wp2
      go_ret2
      refine ⟨?_, hE1.out⟩
      rw [hr.out]
      try rfl
  · have hl3 : a = s.size := by omega
    have hr : Hid (skipN s p = (s.size, true)) := hide (by rw [hsk.out, if_neg (fun h => hlt h.1), hl3])
    subst hl3
    go_wp2
    go_ret2
    refine ⟨?_, hE1.out⟩
    rw [hr.out]
    try rfl
set_option maxRecDepth 100000 in
set_option maxHeartbeats 4000000 in
theorem long_any (r : ByteArray) (hr : 24 < r.size) (hm : r.size ≤ 1000000000) (w : World) :
    Calls Tryd.prog 34 #[.string r] w fun e w' => e = .returned (.int .i64 (lng r 0 0 : Int)) ∧ Ext w w' := by
  replace hm := hide hm
  go_enter Tryd.func34, Tryd.ntmps34
  go_wp2
  obtain ⟨k, hk⟩ : ∃ k, k = w.heap.size := ⟨_, rfl⟩
  have hit0 : Hid ((w.iter r 0).heap[k]? = some (.stringIter r 0)) := hide (by rw [hk]; exact World.iter_heap w r 0)
  have hE0 : Hid (Ext w (w.iter r 0)) := hide ((Below.refl _ _).alloc (Nat.le_refl _) _)
  rw [← hk]
  replace hk := hide hk
  go_loopw [3] (fun l wr => ∃ pos q : Nat, l = .int .i64 (q : Int) ∧ Hid ((pos = 0 ∧ q = 0) ∨ (q ≤ 24 ∧ pos = q + width r q ∧ lng r 0 0 = lng r 0 q)) ∧ pos ≤ r.size ∧ Hid (wr.heap[k]? = some (.stringIter r pos)) ∧ Hid (Ext w wr)) (fun l wr => r.size - wr.iterPos k)
  case atStart => exact ⟨0, 0, rfl, hide (.inl ⟨rfl, rfl⟩), Nat.zero_le _, hit0, hE0⟩
  case round =>
    clear hit0 hE0
    obtain ⟨pos, q, rfl, hI, hps, hit, hE⟩ := hrel
    by_cases hp : pos < r.size
    · have hnx : ∀ ty, (Instr.next (.pointer (some ⟨k, 0, none⟩)) true ty).run Tryd.prog wr = _ := fun ty => run_next_any_at wr k r pos ty hit.out hp
      rw [show (Utf8.decode r pos).1 = rune r pos from rfl, show (Utf8.decode r pos).2 = width r pos from rfl] at hnx
      have hin := width_in hp
      have hwp := width_pos r pos
      have hip : wr.iterPos k = pos := by simp only [World.iterPos, hit.out]
      obtain ⟨wr2, hwr2⟩ : ∃ wr2, wr2 = wr.iterAt k r (pos + width r pos) := ⟨_, rfl⟩
      have hit2 : wr2.heap[k]? = some (.stringIter r (pos + width r pos)) := by rw [hwr2]; exact iterAt_heap wr k r pos (pos + width r pos) hit.out
      have hE2 : Hid (Ext w wr2) := hide (by rw [hwr2]; exact below_iterAt hE.out (Nat.le_of_eq hk.out.symm) _ _)
      rw [← hwr2] at hnx
      obtain ⟨wd, hwd⟩ : ∃ x, x = width r pos := ⟨_, rfl⟩
      rw [← hwd] at hin hwp hit2
      replace hip := hide hip
      replace hit2 := hide hit2
      clear hwr2 hE
      by_cases h24 : 24 < pos
      · have h24' : (24 : Int) < (pos : Int) := by omega
        have hv : Hid (lng r 0 0 = q) := hide (by
          rcases hI.out with ⟨h1, h2⟩ | ⟨h1, h2, h3⟩
          · omega
          · rw [h3]; exact lng_out (by omega) (by omega))
        clear hI
        replace hwd := hide hwd
        go_wp2
        go_ret
        exact ⟨by rw [hv.out]; rfl, hE2.out⟩
      · have h24' : ¬ (24 : Int) < (pos : Int) := by omega
        have hI2 : Hid ((pos + wd = 0 ∧ pos = 0) ∨ (pos ≤ 24 ∧ pos + wd = pos + width r pos ∧ lng r 0 0 = lng r 0 pos)) := hide (by
          refine .inr ⟨by omega, by rw [hwd], ?_⟩
          rcases hI.out with ⟨h1, h2⟩ | ⟨h1, h2, h3⟩
          · rw [h1]
          · rw [h3, lng_go (by omega), ← h2])
        clear hI
        replace hwd := hide hwd
        go_wp2
        go_roundw
        case rel => exact ⟨pos + wd, pos, rfl, hI2, hin, hit2, hE2⟩
        case measure =>
          have h1 : wr2.iterPos k = pos + wd := by simp only [World.iterPos, hit2.out]
          have h2 := hip.out
          omega
    · have hnx : ∀ ty, (Instr.next (.pointer (some ⟨k, 0, none⟩)) true ty).run Tryd.prog wr = _ := fun ty => run_next_end_at wr k r pos ty hit.out hp
      have hv : Hid (lng r 0 0 = q) := hide (by
        rcases hI.out with ⟨h1, h2⟩ | ⟨h1, h2, h3⟩
        · omega
        · rw [h3]; exact lng_out (by omega) (by omega))
      clear hI
      go_wp2
      go_ret
      exact ⟨by rw [hv.out]; rfl, hE.out⟩
end Go.Proofs.YtlianjnmfgakkaaDoor
