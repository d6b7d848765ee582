/- lex.Next. -/
import Derived.Test.YtlianjnmfgakkaaDoorLexF
import Derived.Test.YtlianjnmfgakkaaDoorLexT
import Derived.Test.YtlianjnmfgakkaaDoorLexD
namespace Go.Proofs.YtlianjnmfgakkaaDoor
open Go.RowKit Go.Lib

theorem extract_tail (s : ByteArray) (a n : Nat) (h : a + n ≤ s.size) : (s.extract a s.size).extract 0 n = s.extract a (a + n) := by
  rw [ByteArray.extract_extract]
  congr 1
  omega
theorem toList_ne {s : ByteArray} (h : 0 < s.size) : ¬ s.toList = [] := fun h1 => by
  have h2 : s.data.toList = [] := by rw [← toList_data']; exact h1
  have h3 : s.data.size = 0 := by rw [← Array.length_toList, h2]; rfl
  have h4 : s.data.size = s.size := rfl
  omega
theorem get_tail {s : ByteArray} {a i : Nat} (_ : a + i < s.size) (h' : i < (s.extract a s.size).size) : ((s.extract a s.size)[i]'h').toNat = byt s (a + i) := by
  have e := Lib.tail_get! s a i
  rw [← get_nat h', e]
  rfl
/-- a word that is too long, seen by itself -/
theorem lng_word (s : ByteArray) (G : Nat → Bool) (a k : Nat) (hk : k ≤ s.size) (ha : a + 24 < k) : ∀ p, a ≤ p → p ≤ a + 24 → stp s G p = k → a + lng (s.extract a k) 0 (p - a) = lng s a p := by
  have hsz : (s.extract a k).size = k - a := by rw [ByteArray.size_extract]; omega
  refine rune_ind s (fun p h h1 h2 h3 => by rw [stp_end h] at h3; omega) (fun p h ih h1 h2 h3 => ?_)
  have hg : (okR s p && G (rune s p)) = true := by
    cases hg : (okR s p && G (rune s p)) with
    | true => rfl
    | false => rw [stp_out hg] at h3; omega
  rw [Bool.and_eq_true] at hg
  rw [stp_go h hg.1 hg.2] at h3
  have hge := stp_ge s G (p + width s p)
  have hgt : ∀ i, (s.extract a k).get! (p - a + i) = s.get! (p + i) ∨ ¬ (p - a + i < k - a) := fun i => by
    by_cases hi : p - a + i < k - a
    · left
      have e1 : (s.extract a k).get! (p - a + i) = (s.extract a k)[p - a + i]'(by rw [hsz]; exact hi) := get_lt _
      have e2 : s.get! (p + i) = s[p + i]'(by omega) := get_lt _
      rw [e1, e2, ByteArray.getElem_extract]
      congr 1
      omega
    · exact .inr hi
  have hd := decode_part (s := s) (t := s.extract a k) (p := p) (q := p - a) (m := k - p) (by omega) (by rw [hsz]; omega) (fun i hi => (hgt i).resolve_right (fun h => h (by omega))) hg.1 (by omega)
  have hw := width_pos s p
  by_cases ho : a + 24 < p + width s p
  · rw [lng_out h2 ho, lng_out (by omega) (by rw [hd.2.1]; omega)]
    omega
  · rw [lng_go ho, lng_go (by rw [hd.2.1]; omega), hd.2.1, show p - a + width s p = p + width s p - a by omega]
    exact ih (by omega) (by omega) h3
theorem lng_le (s : ByteArray) (a : Nat) : lng s a a ≤ a + 24 := by
  have key : ∀ n p, p ≤ a + 24 → lngF s a n p ≤ a + 24 := by
    intro n
    induction n with
    | zero => intro p h; exact h
    | succ n ih =>
      intro p h
      unfold lngF
      split
      · exact h
      · exact ih _ (by omega)
  exact key _ a (by omega)
set_option maxRecDepth 100000 in
set_option maxHeartbeats 8000000 in
theorem next_any (s : ByteArray) (p : Nat) (hp : p ≤ s.size) (hm : s.size ≤ 1000000) (w : World) (hU : LaidU w) :
    Calls Tryd.prog 13 #[.string s, .int .i64 (p : Int)] w fun e w' => e = .returned (.tuple #[tokV (nextN s p).1, .int .i64 ((nextN s p).2.1 : Int), .int .i64 (nextN s p).2.2]) ∧ Ext w w' := by
  have hmx : 1000000 ≤ maxLen := by decide
  obtain ⟨N, hN⟩ : ∃ N, N = nextN s p := ⟨_, rfl⟩
  have hp1 : ¬ (p : Int) < 0 := by omega
  have hp2 : ¬ (s.size : Int) < (p : Int) := by omega
  have hge := skip_ge s p
  have hle := skip_le s p hp
  unfold nextN at hN
  obtain ⟨sk, hsk⟩ : ∃ z, z = skipN s p := ⟨_, rfl⟩
  have hN0 : nextN s p = N := by rw [hN]; rfl
  rw [hN0]
  clear hN0
  rw [← hsk] at hN hge hle
  obtain ⟨a, ok⟩ := sk
  simp only at hN hge hle
  replace hN := hide hN
  replace hmx := hide hmx
  replace hU := hide hU
  replace hm := hide hm
  go_enter Tryd.func13, Tryd.ntmps13
  go_upto_region 1 with fail
  obtain ⟨w0, hw0⟩ : ∃ w0, w0 = w.alloc (.cells #[.int .i64 0, .int .i64 0, .string ⟨#[]⟩, .bool false] 29) := ⟨_, rfl⟩
  rw [← hw0]
  have E4 : Ext w w0 := by rw [hw0]; exact (Below.refl _ _).alloc (Nat.le_refl _) _
  have X4 : BoxN w0 w.heap.size 29 #[.int .i64 0, .int .i64 0, .string ⟨#[]⟩, .bool false] := by rw [hw0]; exact BoxN.new w _ _
  clear hw0
  obtain ⟨p4, hp4⟩ : ∃ b, b = w.heap.size := ⟨_, rfl⟩
  rw [← hp4] at X4 ⊢
  have hle4 : w.heap.size ≤ p4 := by omega
  clear hp4
  replace hle4 := hide hle4
  go_wp2_with fail
  refine (skip_any s p hp (by have := hm.out; omega) _ (hU.out.ext E4)).mono ?_
  rintro e w1 ⟨rfl, hE⟩
  rw [← hsk]
  simp only
  replace X4 := hide (X4.ext hE)
  replace E4 := hide (E4.trans (hE.mono E4.size))
  clear hE
  replace hsk := hide hsk
  have hle' : (a : Int) ≤ (s.size : Int) := by omega
  obtain ⟨g, hg⟩ : ∃ g, g = glueN s p a := ⟨_, rfl⟩
  rw [← hg] at hN
  replace hg := hide hg
  replace hN := hide hN.out
  go_upto_region 5 with fail
  go_cut [10] from 33 to 58 (fun s10 wx => ∃ p10, s10 = .pointer (some ⟨p10, 0, none⟩) ∧ Hid (BoxN wx p10 29 #[.int .i64 0, .int .i64 (a : Int), .string ⟨#[]⟩, .bool g]) ∧ Hid (BoxN wx p4 29 #[.int .i64 0, .int .i64 0, .string ⟨#[]⟩, .bool false]) ∧ Hid (p10 ≠ p4 ∧ w.heap.size ≤ p10) ∧ Hid (Ext w wx))
  case first =>
    by_cases hap : a = p
    · subst hap
      by_cases ha0 : a = 0
      · have hgv : Hid (g = false) := hide (by rw [hg.out]; unfold glueN; rw [decide_eq_false (show ¬ 0 < a by omega)]; simp)
        have e3 : ¬ (0 : Int) < (a : Int) := by omega
        replace ha0 := hide ha0
        go_wp2
        go_meet
        case rel =>
          refine ⟨_, rfl, hide ?_, hide (X4.out.ext ?_), hide ⟨?_, ?_⟩, hide ?_⟩
          · rw [hgv.out]; exact BoxN.new _ _ _
          · exact (Below.refl _ _).alloc (Nat.le_refl _) _
          · have := X4.out.lt; omega
          · exact E4.out.size
          · exact E4.out.alloc E4.out.size _
      · have ha1 : a - 1 < s.size := by omega
        obtain ⟨b, hb⟩ : ∃ b, b = byt s (a - 1) := ⟨_, rfl⟩
        have hx : (s[a - 1]'ha1).toNat = b := by rw [hb]; exact byt_at ha1
        have hbl := byt_lt s (a - 1)
        rw [← hb] at hbl
        have e3 : (0 : Int) < (a : Int) := by omega
        have e4 : IntKind.i64.wrap ((a : Int) - 1) = ((a - 1 : Nat) : Int) := by rw [IntWalk.i64_in _ (by have := hm.out; omega)]; omega
        have e5 : wrap32 (b : Int) = (b : Int) := by unfold wrap32; omega
        have e6 : IntKind.i32.wrap (b : Int) = (b : Int) := by rw [IntKind.wrap_i32]; omega
        have hgl : g = (!blankB b && !decide (b = 10)) := by rw [hg.out]; unfold glueN; rw [decide_eq_true rfl, decide_eq_true (show 0 < a by omega), ← hb]; rfl
        replace hb := hide hb
        replace ha0 := hide ha0
        replace hgl := hide hgl
        go_wp2_with fail
        refine (blank_any b _).mono ?_
        rintro e w2 ⟨rfl, hw⟩
        subst hw
        cases hbb : blankB b with
        | true =>
          have hgv : Hid (g = false) := hide (by rw [hgl.out, hbb]; rfl)
          replace hbb := hide hbb
          go_wp2
          go_meet
          case rel =>
            refine ⟨_, rfl, hide ?_, hide (X4.out.ext ?_), hide ⟨?_, ?_⟩, hide ?_⟩
            · rw [hgv.out]; exact BoxN.new _ _ _
            · exact (Below.refl _ _).alloc (Nat.le_refl _) _
            · have := X4.out.lt; omega
            · exact E4.out.size
            · exact E4.out.alloc E4.out.size _
        | false =>
          by_cases h10 : b = 10
          · have hgv : Hid (g = false) := hide (by rw [hgl.out, decide_eq_true h10, Bool.not_true, Bool.and_false])
            have e7 : ((b : Int) != 10) = false := by rw [bne, Bool.not_eq_false', beq_iff_eq]; omega
            have e8 : (b : Int) = 10 := by omega
            replace hbb := hide hbb; replace h10 := hide h10
            go_wp2
            go_meet
            case rel =>
              refine ⟨_, rfl, hide ?_, hide (X4.out.ext ?_), hide ⟨?_, ?_⟩, hide ?_⟩
              · rw [hgv.out]; exact BoxN.new _ _ _
              · exact (Below.refl _ _).alloc (Nat.le_refl _) _
              · have := X4.out.lt; omega
              · exact E4.out.size
              · exact E4.out.alloc E4.out.size _
          · have hgv : Hid (g = true) := hide (by rw [hgl.out, hbb, decide_eq_false h10]; rfl)
            have e7 : ((b : Int) == 10) = false := by rw [beq_eq_false_iff_ne]; omega
            have e8 : ¬ (b : Int) = 10 := by omega
            have e9 : ((b : Int) != 10) = true := by rw [bne, e7]; rfl
            replace hbb := hide hbb; replace h10 := hide h10
            go_wp2
            go_meet
            case rel =>
              refine ⟨_, rfl, hide ?_, hide (X4.out.ext ?_), hide ⟨?_, ?_⟩, hide ?_⟩
              · rw [hgv.out]; exact BoxN.new _ _ _
              · exact (Below.refl _ _).alloc (Nat.le_refl _) _
              · have := X4.out.lt; omega
              · exact E4.out.size
              · exact E4.out.alloc E4.out.size _
    · have hgv : Hid (g = false) := hide (by rw [hg.out]; unfold glueN; rw [decide_eq_false hap]; rfl)
      have e1 : ((a : Int) == (p : Int)) = false := by rw [beq_eq_false_iff_ne]; omega
      have e2 : ¬ (a : Int) = (p : Int) := by omega
      replace hap := hide hap
      go_wp2
      go_meet
      case rel =>
        refine ⟨_, rfl, hide ?_, hide (X4.out.ext ?_), hide ⟨?_, ?_⟩, hide ?_⟩
        · rw [hgv.out]; exact BoxN.new _ _ _
        · exact (Below.refl _ _).alloc (Nat.le_refl _) _
        · have := X4.out.lt; omega
        · exact E4.out.size
        · exact E4.out.alloc E4.out.size _
  case rest =>
    obtain ⟨p10, rfl, X10, X4, hne, E4⟩ := hcut
    obtain ⟨r, hr⟩ : ∃ r, r = s.extract a s.size := ⟨_, rfl⟩
    rw [← hr]
    replace hr := hide hr
    go_upto_block 0 with fail
    go_cut [11, 12, 13, 14] from 58 to 145 (fun _ _ _ _ wx => ∃ (k : Int) (tx : ByteArray), Hid (N = (⟨k, a, tx, g⟩, a + tx.size, 0)) ∧ Hid (a + tx.size ≤ s.size) ∧ Hid (BoxN wx p10 29 #[.int .i64 k, .int .i64 (a : Int), .string tx, .bool g]) ∧ Hid (BoxN wx p4 29 #[.int .i64 0, .int .i64 0, .string ⟨#[]⟩, .bool false]) ∧ Hid (Ext w wx))
    case first =>
      cases ok with
      | false =>
        have hv : Hid (N = (zeroT, a, 120)) := hide (by rw [hN.out, if_pos rfl])
        have X5 := (((X4.out.set 0 (.int .i64 0)).set 1 (.int .i64 0)).set 2 (.string ⟨#[]⟩)).set 3 (.bool false)
        have E5 := (((E4.out.setCell (p := ⟨p4, 0, none⟩) hle4 (.int .i64 0)).setCell (p := ⟨p4, 1, none⟩) hle4 (.int .i64 0)).setCell (p := ⟨p4, 2, none⟩) hle4 (.string ⟨#[]⟩)).setCell (p := ⟨p4, 3, none⟩) hle4 (.bool false)
        have s4 := X4.out.lt
        have f40 := X4.out.free 0
        have f41 := X4.out.free 1
        have f42 := X4.out.free 2
        have f43 := X4.out.free 3
        have k40 := X4.out.cell 0 (v := .int .i64 0) rfl
        have k41 := X4.out.cell 1 (v := .int .i64 0) rfl
        have k42 := X4.out.cell 2 (v := .string ⟨#[]⟩) rfl
        have k43 := X4.out.cell 3 (v := .bool false) rfl
        replace X5 := hide X5
        replace E5 := hide E5
        go_wp2
        refine bodyPost_ret (results_cell3 rfl _ _ p4 29 #[(.int .i64 0), (.int .i64 0), (.string ⟨#[]⟩), (.bool false)] _ _ rfl X5.out Tryd.underlying29 rfl (by kernel_rfl)) rfl ?_
        refine ⟨?_, E5.out⟩
        rw [hv.out]
        try rfl
      | true =>
        by_cases hlt : a < s.size
        · have hN1 := hN.out
          rw [if_neg (by decide), if_neg (by omega)] at hN1
          have hrs : (s.extract a s.size).size = s.size - a := by simp
          have hex1 : (s.extract a s.size).extract 0 1 = s.extract a (a + 1) := extract_tail s a 1 (by omega)
          have hex2 : ∀ n, a + n ≤ s.size → (s.extract a s.size).extract 0 n = s.extract a (a + n) := fun n h => extract_tail s a n h
          have hgt : ∀ h, ((s.extract a s.size)[0]'h).toNat = byt s a := fun h => by
            have := get_tail (s := s) (a := a) (i := 0) (by omega) h
            rw [Nat.add_zero] at this
            exact this
          have hwd := while_tail s digB a hle
          have hww := while_tail s eitherB a hle
          obtain ⟨b, hb⟩ : ∃ b, b = byt s a := ⟨_, rfl⟩
          have hbl := byt_lt s a
          rw [← hb] at hbl hN1 hgt
          rw [← hr.out] at hrs hex1 hex2 hgt hwd hww
          have h0r : 0 < r.size := by omega
          have h1r : (1 : Int) ≤ (r.size : Int) := by omega
          have hx : (r[0]'h0r).toNat = b := hgt h0r
          have hne1 := toList_ne h0r
          have hne2 : r.toList.isEmpty = false := by rw [List.isEmpty_eq_false_iff]; exact hne1
          have hsz1 : (r.extract 0 1).size = 1 := by rw [ByteArray.size_extract]; omega
          have hrm : r.size ≤ 1000000 := by have := hm.out; omega
          replace hrs := hide hrs
          replace hb := hide hb
          replace hN1 := hide hN1
          replace hex1 := hide hex1
          replace hsz1 := hide hsz1
          replace hwd := hide hwd
          replace hww := hide hww
          replace hex2 := hide hex2
          clear hgt hN
          by_cases h10 : b = 10
          · have hv : Hid (N = (⟨4, a, r.extract 0 1, false⟩, a + 1, 0)) := hide (by rw [hN1.out, if_pos h10, ← hex1.out])
            have u1 : IntKind.i64.wrap ((a : Int) + 1) = (a : Int) + 1 := IntWalk.i64_in _ (by have := hm.out; omega)
            subst h10
            have X5 := (((X4.out.set 0 (.int .i64 4)).set 1 (.int .i64 (a : Int))).set 2 (.string (r.extract 0 1))).set 3 (.bool false)
            have E5 := (((E4.out.setCell (p := ⟨p4, 0, none⟩) hle4 (.int .i64 4)).setCell (p := ⟨p4, 1, none⟩) hle4 (.int .i64 (a : Int))).setCell (p := ⟨p4, 2, none⟩) hle4 (.string (r.extract 0 1))).setCell (p := ⟨p4, 3, none⟩) hle4 (.bool false)
            have s4 := X4.out.lt
            have f40 := X4.out.free 0
            have f41 := X4.out.free 1
            have f42 := X4.out.free 2
            have f43 := X4.out.free 3
            have k40 := X4.out.cell 0 (v := .int .i64 0) rfl
            have k41 := X4.out.cell 1 (v := .int .i64 0) rfl
            have k42 := X4.out.cell 2 (v := .string ⟨#[]⟩) rfl
            have k43 := X4.out.cell 3 (v := .bool false) rfl
            replace X5 := hide X5
            replace E5 := hide E5
            go_wp2
            refine bodyPost_ret (results_cell3 rfl _ _ p4 29 #[(.int .i64 4), (.int .i64 (a : Int)), (.string (r.extract 0 1)), (.bool false)] _ _ rfl X5.out Tryd.underlying29 rfl (by kernel_rfl)) rfl ?_
            refine ⟨?_, E5.out⟩
            rw [hv.out]
            try rfl
          · have hN2 := hN1.out
            rw [if_neg h10] at hN2
            have e10 : ((b : Int) == 10) = false := by rw [beq_eq_false_iff_ne]; omega
            have e10' : ¬ (b : Int) = 10 := by omega
            clear hN1
            by_cases h46 : b = 46
            · have hv : Hid (N = (⟨3, a, r.extract 0 1, g⟩, a + (r.extract 0 1).size, 0)) := hide (by rw [hN2, if_pos (.inl h46), ← hex1.out, hsz1.out])
              have hl : Hid (a + (r.extract 0 1).size ≤ s.size) := hide (by rw [hsz1.out]; omega)
              replace hN2 := hide hN2
              clear e10 e10' h10
              subst h46
              go_wp2_with fail
              have s10 := X10.out.lt
              have f10 := X10.out.free 0
              have f12 := X10.out.free 2
              have Z10 := (X10.out.drew.set 0 (.int .i64 3)).set 2 (.string (r.extract 0 1))
              have Z4 := (X4.out.drew.far (p := ⟨p10, 0, none⟩) (Ne.symm hne.out.1) (.int .i64 3)).far (p := ⟨p10, 2, none⟩) (Ne.symm hne.out.1) (.string (r.extract 0 1))
              have ZE := (E4.out.drew.setCell (p := ⟨p10, 0, none⟩) hne.out.2 (.int .i64 3)).setCell (p := ⟨p10, 2, none⟩) hne.out.2 (.string (r.extract 0 1))
              obtain ⟨wl, hwl⟩ : ∃ z, z = wc.drew := ⟨_, rfl⟩
              have s10' : p10 < wl.heap.size := by rw [hwl]; exact s10
              have f10' : wl.frozen? ⟨p10, 0, none⟩ = false := by rw [hwl]; exact f10
              have f12' : wl.frozen? ⟨p10, 2, none⟩ = false := by rw [hwl]; exact f12
              have k10' : wl.cell? ⟨p10, 0, none⟩ = some (.int .i64 0) := by rw [hwl]; exact X10.out.cell 0 rfl
              have k12' : wl.cell? ⟨p10, 2, none⟩ = some (.string ⟨#[]⟩) := by rw [hwl]; exact X10.out.cell 2 rfl
              rw [← hwl] at Z10 Z4 ZE
              replace Z10 := hide Z10
              replace Z4 := hide Z4
              replace ZE := hide ZE
              clear s10 f10 f12
              refine wp_region_mix (fun _ => True) [(0, true), (1, true), (2, true), (3, false), (4, true), (5, false)] (by kernel_rfl) (by kernel_rfl) (by kernel_rfl) (by kernel_rfl) (fun _ _ d _ _ h => by cases d <;> exact h) trivial ?_
              rw [← hwl]
              clear hwl
              iterate 3
                apply mix_q rfl rfl
                · intro W _
                  go_simp
                  try exact rfl
                simp only [Act.put, List.setIfInBounds_toArray, List.set_cons_zero, List.set_cons_succ]
              iterate 1
                refine mix_w rfl rfl (fun K hK => ?_)
                go_simp
                refine hK _ _ trivial ?_
                clear hK K
                try simp only [Act.put, List.setIfInBounds_toArray, List.set_cons_zero, List.set_cons_succ]
              iterate 1
                apply mix_q rfl rfl
                · intro W _
                  go_simp
                  try exact rfl
                simp only [Act.put, List.setIfInBounds_toArray, List.set_cons_zero, List.set_cons_succ]
              iterate 1
                refine mix_w rfl rfl (fun K hK => ?_)
                go_simp
                refine hK _ _ trivial ?_
                clear hK K
                try simp only [Act.put, List.setIfInBounds_toArray, List.set_cons_zero, List.set_cons_succ]
              refine mix_nil ?_
              go_wp2
              go_meet
              case rel => exact ⟨_, _, hv, hl, Z10, Z4, ZE⟩
            · by_cases h45 : b = 45
              · have hv : Hid (N = (⟨3, a, r.extract 0 1, g⟩, a + (r.extract 0 1).size, 0)) := hide (by rw [hN2, if_pos (.inr h45), ← hex1.out, hsz1.out])
                have hl : Hid (a + (r.extract 0 1).size ≤ s.size) := hide (by rw [hsz1.out]; omega)
                replace hN2 := hide hN2
                clear e10 e10' h10 h46
                subst h45
                go_wp2_with fail
                have s10 := X10.out.lt
                have f10 := X10.out.free 0
                have f12 := X10.out.free 2
                have Z10 := (X10.out.drew.set 0 (.int .i64 3)).set 2 (.string (r.extract 0 1))
                have Z4 := (X4.out.drew.far (p := ⟨p10, 0, none⟩) (Ne.symm hne.out.1) (.int .i64 3)).far (p := ⟨p10, 2, none⟩) (Ne.symm hne.out.1) (.string (r.extract 0 1))
                have ZE := (E4.out.drew.setCell (p := ⟨p10, 0, none⟩) hne.out.2 (.int .i64 3)).setCell (p := ⟨p10, 2, none⟩) hne.out.2 (.string (r.extract 0 1))
                obtain ⟨wl, hwl⟩ : ∃ z, z = wc.drew := ⟨_, rfl⟩
                have s10' : p10 < wl.heap.size := by rw [hwl]; exact s10
                have f10' : wl.frozen? ⟨p10, 0, none⟩ = false := by rw [hwl]; exact f10
                have f12' : wl.frozen? ⟨p10, 2, none⟩ = false := by rw [hwl]; exact f12
                have k10' : wl.cell? ⟨p10, 0, none⟩ = some (.int .i64 0) := by rw [hwl]; exact X10.out.cell 0 rfl
                have k12' : wl.cell? ⟨p10, 2, none⟩ = some (.string ⟨#[]⟩) := by rw [hwl]; exact X10.out.cell 2 rfl
                rw [← hwl] at Z10 Z4 ZE
                replace Z10 := hide Z10
                replace Z4 := hide Z4
                replace ZE := hide ZE
                clear s10 f10 f12
                refine wp_region_mix (fun _ => True) [(0, true), (1, true), (2, true), (3, false), (4, true), (5, false)] (by kernel_rfl) (by kernel_rfl) (by kernel_rfl) (by kernel_rfl) (fun _ _ d _ _ h => by cases d <;> exact h) trivial ?_
                rw [← hwl]
                clear hwl
                iterate 3
                  apply mix_q rfl rfl
                  · intro W _
                    go_simp
                    try exact rfl
                  simp only [Act.put, List.setIfInBounds_toArray, List.set_cons_zero, List.set_cons_succ]
                iterate 1
                  refine mix_w rfl rfl (fun K hK => ?_)
                  go_simp
                  refine hK _ _ trivial ?_
                  clear hK K
                  try simp only [Act.put, List.setIfInBounds_toArray, List.set_cons_zero, List.set_cons_succ]
                iterate 1
                  apply mix_q rfl rfl
                  · intro W _
                    go_simp
                    try exact rfl
                  simp only [Act.put, List.setIfInBounds_toArray, List.set_cons_zero, List.set_cons_succ]
                iterate 1
                  refine mix_w rfl rfl (fun K hK => ?_)
                  go_simp
                  refine hK _ _ trivial ?_
                  clear hK K
                  try simp only [Act.put, List.setIfInBounds_toArray, List.set_cons_zero, List.set_cons_succ]
                refine mix_nil ?_
                go_wp2
                go_meet
                case rel => exact ⟨_, _, hv, hl, Z10, Z4, ZE⟩
              · have hN3 := hN2
                rw [if_neg (by omega)] at hN3
                have e46 : ((b : Int) == 46) = false := by rw [beq_eq_false_iff_ne]; omega
                have e46' : ¬ (b : Int) = 46 := by omega
                have e45 : ((b : Int) == 45) = false := by rw [beq_eq_false_iff_ne]; omega
                have e45' : ¬ (b : Int) = 45 := by omega
                have e5 : wrap32 (b : Int) = (b : Int) := by unfold wrap32; omega
                have e6 : IntKind.i32.wrap (b : Int) = (b : Int) := by rw [IntKind.wrap_i32]; omega
                replace hN3 := hide hN3
                replace h10 := hide h10
                replace h46 := hide h46
                replace h45 := hide h45
                clear hN2
                go_wp2_with fail
                refine (numB_any (b : Int) _).mono ?_
                rintro e w2 ⟨rfl, hw⟩
                subst hw
                cases hd : digZ (b : Int) with
                | true =>
                  have hN4 := hN3.out
                  rw [if_pos hd] at hN4
                  replace hN4 := hide hN4
                  replace hd := hide hd
                  clear hN3
                  go_wp2_with fail
                  refine (while_any r 25 digB goes_number enter_number (by have := hmx.out; omega) _ (hU.out.ext E4.out)).mono ?_
                  rintro e w2 ⟨rfl, hE⟩
                  replace X4 := hide (X4.out.ext hE)
                  replace X10 := hide (X10.out.ext hE)
                  replace E4 := hide (E4.out.trans (hE.mono E4.out.size))
                  clear hE
                  obtain ⟨n, hn⟩ : ∃ n, n = whileN r digB := ⟨_, rfl⟩
                  have hk := hwd.out
                  have hkl := stp_le s digB a hle
                  rw [← hn] at hk ⊢
                  have hex := hex2.out n (by omega)
                  have hnr : n ≤ r.size := by have := hrs.out; omega
                  have hnr' : (n : Int) ≤ (r.size : Int) := by omega
                  have htx : (r.extract 0 n).size = n := by rw [ByteArray.size_extract]; omega
                  replace hn := hide hn
                  have hkn : a + n ≤ s.size := by omega
                  replace hk := hide hk
                  replace hex := hide hex
                  clear hkl hwd hww
                  by_cases h48 : b = 48
                  · by_cases hn1 : 1 < n
                    · have hv : Hid (N = (zeroT, a + 1, 120)) := hide (by rw [hN4.out, if_pos ⟨h48, by rw [← hk.out]; omega⟩])
                      have u1 : IntKind.i64.wrap ((a : Int) + 1) = (a : Int) + 1 := IntWalk.i64_in _ (by have := hm.out; omega)
                      have u2 : (1 : Int) < (n : Int) := by omega
                      clear e10 e10' e46 e46' e45 e45' e5 e6
                      subst h48
                      have X5 := (((X4.out.set 0 (.int .i64 0)).set 1 (.int .i64 0)).set 2 (.string ⟨#[]⟩)).set 3 (.bool false)
                      have E5 := (((E4.out.setCell (p := ⟨p4, 0, none⟩) hle4 (.int .i64 0)).setCell (p := ⟨p4, 1, none⟩) hle4 (.int .i64 0)).setCell (p := ⟨p4, 2, none⟩) hle4 (.string ⟨#[]⟩)).setCell (p := ⟨p4, 3, none⟩) hle4 (.bool false)
                      have s4 := X4.out.lt
                      have f40 := X4.out.free 0
                      have f41 := X4.out.free 1
                      have f42 := X4.out.free 2
                      have f43 := X4.out.free 3
                      have k40 := X4.out.cell 0 (v := .int .i64 0) rfl
                      have k41 := X4.out.cell 1 (v := .int .i64 0) rfl
                      have k42 := X4.out.cell 2 (v := .string ⟨#[]⟩) rfl
                      have k43 := X4.out.cell 3 (v := .bool false) rfl
                      replace X5 := hide X5
                      replace E5 := hide E5
                      go_wp2
                      refine bodyPost_ret (results_cell3 rfl _ _ p4 29 #[(.int .i64 0), (.int .i64 0), (.string ⟨#[]⟩), (.bool false)] _ _ rfl X5.out Tryd.underlying29 rfl (by kernel_rfl)) rfl ?_
                      refine ⟨?_, E5.out⟩
                      rw [hv.out]
                      try rfl
                    · have u2 : ¬ (1 : Int) < (n : Int) := by omega
                      have hno : ¬ (b = 48 ∧ a + 1 < stp s digB a) := by rw [← hk.out]; omega
                      clear e10 e10' e46 e46' e45 e45' e5 e6
                      replace hno := hide hno
                      have hN5 := hN4.out
                      rw [if_neg hno.out] at hN5
                      replace hN4 := hide hN5
                      clear hN5 hno
                      subst h48
                      have hrd := read_any (r.extract 0 n) (by rw [htx]; omega)
                      obtain ⟨rs, hrs⟩ : ∃ q, q = readS (nums (r.extract 0 n)) := ⟨_, rfl⟩
                      rw [← hrs] at hrd
                      have hfit : fitB (r.extract 0 n) = (rs.2 == 0) := by rw [hrs]; rfl
                      obtain ⟨r1, r2⟩ := rs
                      simp only at hrd hfit
                      replace hrs := hide hrs
                      replace hfit := hide hfit
                      replace hrd := hide hrd
                      go_wp2_with fail
                      refine (hrd.out _).mono ?_
                      rintro e w2 ⟨rfl, hE⟩
                      replace X4 := hide (X4.out.ext hE)
                      replace X10 := hide (X10.out.ext hE)
                      replace E4 := hide (E4.out.trans (hE.mono E4.out.size))
                      clear hE hrd
                      by_cases hz : r2 = 0
                      · have hv : Hid (N = (⟨2, a, r.extract 0 n, g⟩, a + (r.extract 0 n).size, 0)) := hide (by
                          rw [hN4.out, ← hk.out, ← hex.out, if_pos (by rw [hfit.out, hz]; rfl), htx])
                        have hl : Hid (a + (r.extract 0 n).size ≤ s.size) := hide (by rw [htx]; omega)
                        subst hz
                        go_wp2_with fail
                        have s10 := X10.out.lt
                        have f10 := X10.out.free 0
                        have f12 := X10.out.free 2
                        have Z10 := (X10.out.drew.set 0 (.int .i64 2)).set 2 (.string (r.extract 0 n))
                        have Z4 := (X4.out.drew.far (p := ⟨p10, 0, none⟩) (Ne.symm hne.out.1) (.int .i64 2)).far (p := ⟨p10, 2, none⟩) (Ne.symm hne.out.1) (.string (r.extract 0 n))
                        have ZE := (E4.out.drew.setCell (p := ⟨p10, 0, none⟩) hne.out.2 (.int .i64 2)).setCell (p := ⟨p10, 2, none⟩) hne.out.2 (.string (r.extract 0 n))
                        obtain ⟨wl, hwl⟩ : ∃ z, z = w2.drew := ⟨_, rfl⟩
                        have s10' : p10 < wl.heap.size := by rw [hwl]; exact s10
                        have f10' : wl.frozen? ⟨p10, 0, none⟩ = false := by rw [hwl]; exact f10
                        have f12' : wl.frozen? ⟨p10, 2, none⟩ = false := by rw [hwl]; exact f12
                        have k10' : wl.cell? ⟨p10, 0, none⟩ = some (.int .i64 0) := by rw [hwl]; exact X10.out.cell 0 rfl
                        have k12' : wl.cell? ⟨p10, 2, none⟩ = some (.string ⟨#[]⟩) := by rw [hwl]; exact X10.out.cell 2 rfl
                        rw [← hwl] at Z10 Z4 ZE
                        replace Z10 := hide Z10
                        replace Z4 := hide Z4
                        replace ZE := hide ZE
                        clear s10 f10 f12
                        refine wp_region_mix (fun _ => True) [(0, true), (1, true), (2, true), (3, true), (4, false), (5, true), (6, false)] (by kernel_rfl) (by kernel_rfl) (by kernel_rfl) (by kernel_rfl) (fun _ _ d _ _ h => by cases d <;> exact h) trivial ?_
                        rw [← hwl]
                        clear hwl
                        iterate 4
                          apply mix_q rfl rfl
                          · intro W _
                            go_simp
                            try exact rfl
                          simp only [Act.put, List.setIfInBounds_toArray, List.set_cons_zero, List.set_cons_succ]
                        iterate 1
                          refine mix_w rfl rfl (fun K hK => ?_)
                          go_simp
                          refine hK _ _ trivial ?_
                          clear hK K
                          try simp only [Act.put, List.setIfInBounds_toArray, List.set_cons_zero, List.set_cons_succ]
                        iterate 1
                          apply mix_q rfl rfl
                          · intro W _
                            go_simp
                            try exact rfl
                          simp only [Act.put, List.setIfInBounds_toArray, List.set_cons_zero, List.set_cons_succ]
                        iterate 1
                          refine mix_w rfl rfl (fun K hK => ?_)
                          go_simp
                          refine hK _ _ trivial ?_
                          clear hK K
                          try simp only [Act.put, List.setIfInBounds_toArray, List.set_cons_zero, List.set_cons_succ]
                        refine mix_nil ?_
                        go_wp2
                        go_meet
                        case rel => exact ⟨_, _, hv, hl, Z10, Z4, ZE⟩
                      · have hv : Hid (N = (zeroT, a, 121)) := hide (by
                          rw [hN4.out, ← hk.out, ← hex.out, if_neg (by rw [hfit.out]; simpa using hz)])
                        have q1 : (r2 == 0) = false := by rw [beq_eq_false_iff_ne]; exact hz
                        have q2 : (r2 != 0) = true := by rw [bne, q1]; rfl
                        have X5 := (((X4.out.set 0 (.int .i64 0)).set 1 (.int .i64 0)).set 2 (.string ⟨#[]⟩)).set 3 (.bool false)
                        have E5 := (((E4.out.setCell (p := ⟨p4, 0, none⟩) hle4 (.int .i64 0)).setCell (p := ⟨p4, 1, none⟩) hle4 (.int .i64 0)).setCell (p := ⟨p4, 2, none⟩) hle4 (.string ⟨#[]⟩)).setCell (p := ⟨p4, 3, none⟩) hle4 (.bool false)
                        have s4 := X4.out.lt
                        have f40 := X4.out.free 0
                        have f41 := X4.out.free 1
                        have f42 := X4.out.free 2
                        have f43 := X4.out.free 3
                        have k40 := X4.out.cell 0 (v := .int .i64 0) rfl
                        have k41 := X4.out.cell 1 (v := .int .i64 0) rfl
                        have k42 := X4.out.cell 2 (v := .string ⟨#[]⟩) rfl
                        have k43 := X4.out.cell 3 (v := .bool false) rfl
                        replace X5 := hide X5
                        replace E5 := hide E5
                        go_wp2
                        refine bodyPost_ret (results_cell3 rfl _ _ p4 29 #[(.int .i64 0), (.int .i64 0), (.string ⟨#[]⟩), (.bool false)] _ _ rfl X5.out Tryd.underlying29 rfl (by kernel_rfl)) rfl ?_
                        refine ⟨?_, E5.out⟩
                        rw [hv.out]
                        try rfl
                  · have u3 : ((b : Int) == 48) = false := by rw [beq_eq_false_iff_ne]; omega
                    have u4 : ¬ (b : Int) = 48 := by omega
                    have hN5 := hN4.out
                    rw [if_neg (fun h => h48 h.1)] at hN5
                    replace hN4 := hide hN5
                    clear hN5
                    replace h48 := hide h48
                    have hrd := read_any (r.extract 0 n) (by rw [htx]; omega)
                    obtain ⟨rs, hrs⟩ : ∃ q, q = readS (nums (r.extract 0 n)) := ⟨_, rfl⟩
                    rw [← hrs] at hrd
                    have hfit : fitB (r.extract 0 n) = (rs.2 == 0) := by rw [hrs]; rfl
                    obtain ⟨r1, r2⟩ := rs
                    simp only at hrd hfit
                    replace hrs := hide hrs
                    replace hfit := hide hfit
                    replace hrd := hide hrd
                    go_wp2_with fail
                    refine (hrd.out _).mono ?_
                    rintro e w2 ⟨rfl, hE⟩
                    replace X4 := hide (X4.out.ext hE)
                    replace X10 := hide (X10.out.ext hE)
                    replace E4 := hide (E4.out.trans (hE.mono E4.out.size))
                    clear hE hrd
                    by_cases hz : r2 = 0
                    · have hv : Hid (N = (⟨2, a, r.extract 0 n, g⟩, a + (r.extract 0 n).size, 0)) := hide (by
                        rw [hN4.out, ← hk.out, ← hex.out, if_pos (by rw [hfit.out, hz]; rfl), htx])
                      have hl : Hid (a + (r.extract 0 n).size ≤ s.size) := hide (by rw [htx]; omega)
                      subst hz
                      go_wp2_with fail
                      have s10 := X10.out.lt
                      have f10 := X10.out.free 0
                      have f12 := X10.out.free 2
                      have Z10 := (X10.out.drew.set 0 (.int .i64 2)).set 2 (.string (r.extract 0 n))
                      have Z4 := (X4.out.drew.far (p := ⟨p10, 0, none⟩) (Ne.symm hne.out.1) (.int .i64 2)).far (p := ⟨p10, 2, none⟩) (Ne.symm hne.out.1) (.string (r.extract 0 n))
                      have ZE := (E4.out.drew.setCell (p := ⟨p10, 0, none⟩) hne.out.2 (.int .i64 2)).setCell (p := ⟨p10, 2, none⟩) hne.out.2 (.string (r.extract 0 n))
                      obtain ⟨wl, hwl⟩ : ∃ z, z = w2.drew := ⟨_, rfl⟩
                      have s10' : p10 < wl.heap.size := by rw [hwl]; exact s10
                      have f10' : wl.frozen? ⟨p10, 0, none⟩ = false := by rw [hwl]; exact f10
                      have f12' : wl.frozen? ⟨p10, 2, none⟩ = false := by rw [hwl]; exact f12
                      have k10' : wl.cell? ⟨p10, 0, none⟩ = some (.int .i64 0) := by rw [hwl]; exact X10.out.cell 0 rfl
                      have k12' : wl.cell? ⟨p10, 2, none⟩ = some (.string ⟨#[]⟩) := by rw [hwl]; exact X10.out.cell 2 rfl
                      rw [← hwl] at Z10 Z4 ZE
                      replace Z10 := hide Z10
                      replace Z4 := hide Z4
                      replace ZE := hide ZE
                      clear s10 f10 f12
                      refine wp_region_mix (fun _ => True) [(0, true), (1, true), (2, true), (3, true), (4, false), (5, true), (6, false)] (by kernel_rfl) (by kernel_rfl) (by kernel_rfl) (by kernel_rfl) (fun _ _ d _ _ h => by cases d <;> exact h) trivial ?_
                      rw [← hwl]
                      clear hwl
                      iterate 4
                        apply mix_q rfl rfl
                        · intro W _
                          go_simp
                          try exact rfl
                        simp only [Act.put, List.setIfInBounds_toArray, List.set_cons_zero, List.set_cons_succ]
                      iterate 1
                        refine mix_w rfl rfl (fun K hK => ?_)
                        go_simp
                        refine hK _ _ trivial ?_
                        clear hK K
                        try simp only [Act.put, List.setIfInBounds_toArray, List.set_cons_zero, List.set_cons_succ]
                      iterate 1
                        apply mix_q rfl rfl
                        · intro W _
                          go_simp
                          try exact rfl
                        simp only [Act.put, List.setIfInBounds_toArray, List.set_cons_zero, List.set_cons_succ]
                      iterate 1
                        refine mix_w rfl rfl (fun K hK => ?_)
                        go_simp
                        refine hK _ _ trivial ?_
                        clear hK K
                        try simp only [Act.put, List.setIfInBounds_toArray, List.set_cons_zero, List.set_cons_succ]
                      refine mix_nil ?_
                      go_wp2
                      go_meet
                      case rel => exact ⟨_, _, hv, hl, Z10, Z4, ZE⟩
                    · have hv : Hid (N = (zeroT, a, 121)) := hide (by
                        rw [hN4.out, ← hk.out, ← hex.out, if_neg (by rw [hfit.out]; simpa using hz)])
                      have q1 : (r2 == 0) = false := by rw [beq_eq_false_iff_ne]; exact hz
                      have q2 : (r2 != 0) = true := by rw [bne, q1]; rfl
                      have X5 := (((X4.out.set 0 (.int .i64 0)).set 1 (.int .i64 0)).set 2 (.string ⟨#[]⟩)).set 3 (.bool false)
                      have E5 := (((E4.out.setCell (p := ⟨p4, 0, none⟩) hle4 (.int .i64 0)).setCell (p := ⟨p4, 1, none⟩) hle4 (.int .i64 0)).setCell (p := ⟨p4, 2, none⟩) hle4 (.string ⟨#[]⟩)).setCell (p := ⟨p4, 3, none⟩) hle4 (.bool false)
                      have s4 := X4.out.lt
                      have f40 := X4.out.free 0
                      have f41 := X4.out.free 1
                      have f42 := X4.out.free 2
                      have f43 := X4.out.free 3
                      have k40 := X4.out.cell 0 (v := .int .i64 0) rfl
                      have k41 := X4.out.cell 1 (v := .int .i64 0) rfl
                      have k42 := X4.out.cell 2 (v := .string ⟨#[]⟩) rfl
                      have k43 := X4.out.cell 3 (v := .bool false) rfl
                      replace X5 := hide X5
                      replace E5 := hide E5
                      go_wp2
                      refine bodyPost_ret (results_cell3 rfl _ _ p4 29 #[(.int .i64 0), (.int .i64 0), (.string ⟨#[]⟩), (.bool false)] _ _ rfl X5.out Tryd.underlying29 rfl (by kernel_rfl)) rfl ?_
                      refine ⟨?_, E5.out⟩
                      rw [hv.out]
                      try rfl
                | false =>
                  have hN4 := hN3.out
                  rw [if_neg (by rw [hd]; decide)] at hN4
                  replace hN4 := hide hN4
                  replace hd := hide hd
                  clear hN3
                  go_wp2_with fail
                  refine (while_any r 27 eitherB goes_eith enter_either (by have := hmx.out; omega) _ (hU.out.ext E4.out)).mono ?_
                  rintro e w2 ⟨rfl, hE⟩
                  replace X4 := hide (X4.out.ext hE)
                  replace X10 := hide (X10.out.ext hE)
                  replace E4 := hide (E4.out.trans (hE.mono E4.out.size))
                  clear hE
                  obtain ⟨n, hn⟩ : ∃ n, n = whileN r eitherB := ⟨_, rfl⟩
                  have hk := hww.out
                  have hkl := stp_le s eitherB a hle
                  rw [← hn] at hk ⊢
                  have hex := hex2.out n (by omega)
                  have hnr : n ≤ r.size := by have := hrs.out; omega
                  have hnr' : (n : Int) ≤ (r.size : Int) := by omega
                  have htx : (r.extract 0 n).size = n := by rw [ByteArray.size_extract]; omega
                  replace hn := hide hn
                  have hkn : a + n ≤ s.size := by omega
                  replace hk := hide hk
                  replace hex := hide hex
                  clear hkl hwd hww
                  by_cases hn0 : n = 0
                  · have hv : Hid (N = (zeroT, a, 120)) := hide (by rw [hN4.out, if_pos (by rw [← hk.out]; omega)])
                    subst hn0
                    have X5 := (((X4.out.set 0 (.int .i64 0)).set 1 (.int .i64 0)).set 2 (.string ⟨#[]⟩)).set 3 (.bool false)
                    have E5 := (((E4.out.setCell (p := ⟨p4, 0, none⟩) hle4 (.int .i64 0)).setCell (p := ⟨p4, 1, none⟩) hle4 (.int .i64 0)).setCell (p := ⟨p4, 2, none⟩) hle4 (.string ⟨#[]⟩)).setCell (p := ⟨p4, 3, none⟩) hle4 (.bool false)
                    have s4 := X4.out.lt
                    have f40 := X4.out.free 0
                    have f41 := X4.out.free 1
                    have f42 := X4.out.free 2
                    have f43 := X4.out.free 3
                    have k40 := X4.out.cell 0 (v := .int .i64 0) rfl
                    have k41 := X4.out.cell 1 (v := .int .i64 0) rfl
                    have k42 := X4.out.cell 2 (v := .string ⟨#[]⟩) rfl
                    have k43 := X4.out.cell 3 (v := .bool false) rfl
                    replace X5 := hide X5
                    replace E5 := hide E5
                    go_wp2
                    refine bodyPost_ret (results_cell3 rfl _ _ p4 29 #[(.int .i64 0), (.int .i64 0), (.string ⟨#[]⟩), (.bool false)] _ _ rfl X5.out Tryd.underlying29 rfl (by kernel_rfl)) rfl ?_
                    refine ⟨?_, E5.out⟩
                    rw [hv.out]
                    try rfl
                  · have u1 : ((n : Int) == 0) = false := by rw [beq_eq_false_iff_ne]; omega
                    have u2 : ¬ (n : Int) = 0 := by omega
                    have hN5 := hN4.out
                    rw [if_neg (by rw [← hk.out]; omega)] at hN5
                    clear hN4
                    by_cases h24 : 24 < n
                    · have u3 : (24 : Int) < (n : Int) := by omega
                      have hlw := lng_word s eitherB a (a + n) hkn (by omega) a (Nat.le_refl _) (by omega) hk.out.symm
                      rw [← hex.out, Nat.sub_self] at hlw
                      have hla := long_any (r.extract 0 n) (by rw [htx]; exact h24) (by rw [htx]; omega)
                      have hv : Hid (N = (zeroT, lng s a a, 120)) := hide (by rw [hN5, if_pos (by rw [← hk.out]; omega)])
                      obtain ⟨lg, hlg⟩ : ∃ q, q = lng (r.extract 0 n) 0 0 := ⟨_, rfl⟩
                      rw [← hlg] at hlw hla
                      have hlm : lg ≤ 24 := by rw [hlg]; exact lng_le _ 0
                      rw [← hlw] at hv
                      have u4 : IntKind.i64.wrap ((a : Int) + (lg : Int)) = (a : Int) + (lg : Int) := IntWalk.i64_in _ (by have := hm.out; omega)
                      replace hlg := hide hlg
                      replace hlw := hide hlw
                      replace hN5 := hide hN5
                      replace hla := hide hla
                      replace h24 := hide h24
                      go_wp2_with fail
                      refine (hla.out _).mono ?_
                      rintro e w2 ⟨rfl, hE⟩
                      replace X4 := hide (X4.out.ext hE)
                      replace X10 := hide (X10.out.ext hE)
                      replace E4 := hide (E4.out.trans (hE.mono E4.out.size))
                      clear hE
                      have X5 := (((X4.out.set 0 (.int .i64 0)).set 1 (.int .i64 0)).set 2 (.string ⟨#[]⟩)).set 3 (.bool false)
                      have E5 := (((E4.out.setCell (p := ⟨p4, 0, none⟩) hle4 (.int .i64 0)).setCell (p := ⟨p4, 1, none⟩) hle4 (.int .i64 0)).setCell (p := ⟨p4, 2, none⟩) hle4 (.string ⟨#[]⟩)).setCell (p := ⟨p4, 3, none⟩) hle4 (.bool false)
                      have s4 := X4.out.lt
                      have f40 := X4.out.free 0
                      have f41 := X4.out.free 1
                      have f42 := X4.out.free 2
                      have f43 := X4.out.free 3
                      have k40 := X4.out.cell 0 (v := .int .i64 0) rfl
                      have k41 := X4.out.cell 1 (v := .int .i64 0) rfl
                      have k42 := X4.out.cell 2 (v := .string ⟨#[]⟩) rfl
                      have k43 := X4.out.cell 3 (v := .bool false) rfl
                      replace X5 := hide X5
                      replace E5 := hide E5
                      go_wp2
                      refine bodyPost_ret (results_cell3 rfl _ _ p4 29 #[(.int .i64 0), (.int .i64 0), (.string ⟨#[]⟩), (.bool false)] _ _ rfl X5.out Tryd.underlying29 rfl (by kernel_rfl)) rfl ?_
                      refine ⟨?_, E5.out⟩
                      rw [hv.out]
                      try rfl
                    · have u3 : ¬ (24 : Int) < (n : Int) := by omega
                      have hv : Hid (N = (⟨1, a, r.extract 0 n, g⟩, a + (r.extract 0 n).size, 0)) := hide (by
                        rw [hN5, if_neg (by rw [← hk.out]; omega), ← hk.out, ← hex.out, htx])
                      have hl : Hid (a + (r.extract 0 n).size ≤ s.size) := hide (by rw [htx]; omega)
                      replace hN5 := hide hN5
                      replace h24 := hide h24
                      go_wp2_with fail
                      have s10 := X10.out.lt
                      have f10 := X10.out.free 0
                      have f12 := X10.out.free 2
                      have Z10 := (X10.out.drew.set 0 (.int .i64 1)).set 2 (.string (r.extract 0 n))
                      have Z4 := (X4.out.drew.far (p := ⟨p10, 0, none⟩) (Ne.symm hne.out.1) (.int .i64 1)).far (p := ⟨p10, 2, none⟩) (Ne.symm hne.out.1) (.string (r.extract 0 n))
                      have ZE := (E4.out.drew.setCell (p := ⟨p10, 0, none⟩) hne.out.2 (.int .i64 1)).setCell (p := ⟨p10, 2, none⟩) hne.out.2 (.string (r.extract 0 n))
                      obtain ⟨wl, hwl⟩ : ∃ z, z = w2.drew := ⟨_, rfl⟩
                      have s10' : p10 < wl.heap.size := by rw [hwl]; exact s10
                      have f10' : wl.frozen? ⟨p10, 0, none⟩ = false := by rw [hwl]; exact f10
                      have f12' : wl.frozen? ⟨p10, 2, none⟩ = false := by rw [hwl]; exact f12
                      have k10' : wl.cell? ⟨p10, 0, none⟩ = some (.int .i64 0) := by rw [hwl]; exact X10.out.cell 0 rfl
                      have k12' : wl.cell? ⟨p10, 2, none⟩ = some (.string ⟨#[]⟩) := by rw [hwl]; exact X10.out.cell 2 rfl
                      rw [← hwl] at Z10 Z4 ZE
                      replace Z10 := hide Z10
                      replace Z4 := hide Z4
                      replace ZE := hide ZE
                      clear s10 f10 f12
                      refine wp_region_mix (fun _ => True) [(0, true), (1, true), (2, true), (3, true), (4, false), (5, true), (6, false)] (by kernel_rfl) (by kernel_rfl) (by kernel_rfl) (by kernel_rfl) (fun _ _ d _ _ h => by cases d <;> exact h) trivial ?_
                      rw [← hwl]
                      clear hwl
                      iterate 4
                        apply mix_q rfl rfl
                        · intro W _
                          go_simp
                          try exact rfl
                        simp only [Act.put, List.setIfInBounds_toArray, List.set_cons_zero, List.set_cons_succ]
                      iterate 1
                        refine mix_w rfl rfl (fun K hK => ?_)
                        go_simp
                        refine hK _ _ trivial ?_
                        clear hK K
                        try simp only [Act.put, List.setIfInBounds_toArray, List.set_cons_zero, List.set_cons_succ]
                      iterate 1
                        apply mix_q rfl rfl
                        · intro W _
                          go_simp
                          try exact rfl
                        simp only [Act.put, List.setIfInBounds_toArray, List.set_cons_zero, List.set_cons_succ]
                      iterate 1
                        refine mix_w rfl rfl (fun K hK => ?_)
                        go_simp
                        refine hK _ _ trivial ?_
                        clear hK K
                        try simp only [Act.put, List.setIfInBounds_toArray, List.set_cons_zero, List.set_cons_succ]
                      refine mix_nil ?_
                      go_wp2
                      go_meet
                      case rel => exact ⟨_, _, hv, hl, Z10, Z4, ZE⟩
        · have hae : a = s.size := by omega
          have hv : Hid (N = (⟨5, a, ⟨#[]⟩, false⟩, a, 0)) := hide (by rw [hN.out, if_neg (by decide), if_pos hlt])
          have hre : r = ⟨#[]⟩ := hr.out.trans (ByteArray.ext (Array.size_eq_zero_iff.1 (by
            have : (s.extract a s.size).size = 0 := by rw [ByteArray.size_extract]; omega
            exact this)))
          subst hre
          clear hlt hae hN
          have X5 := (((X4.out.set 0 (.int .i64 5)).set 1 (.int .i64 (a : Int))).set 2 (.string ⟨#[]⟩)).set 3 (.bool false)
          have E5 := (((E4.out.setCell (p := ⟨p4, 0, none⟩) hle4 (.int .i64 5)).setCell (p := ⟨p4, 1, none⟩) hle4 (.int .i64 (a : Int))).setCell (p := ⟨p4, 2, none⟩) hle4 (.string ⟨#[]⟩)).setCell (p := ⟨p4, 3, none⟩) hle4 (.bool false)
          have s4 := X4.out.lt
          have f40 := X4.out.free 0
          have f41 := X4.out.free 1
          have f42 := X4.out.free 2
          have f43 := X4.out.free 3
          have k40 := X4.out.cell 0 (v := .int .i64 0) rfl
          have k41 := X4.out.cell 1 (v := .int .i64 0) rfl
          have k42 := X4.out.cell 2 (v := .string ⟨#[]⟩) rfl
          have k43 := X4.out.cell 3 (v := .bool false) rfl
          replace X5 := hide X5
          replace E5 := hide E5
          go_wp2
          refine bodyPost_ret (results_cell3 rfl _ _ p4 29 #[(.int .i64 5), (.int .i64 (a : Int)), (.string ⟨#[]⟩), (.bool false)] _ _ rfl X5.out Tryd.underlying29 rfl (by kernel_rfl)) rfl ?_
          refine ⟨?_, E5.out⟩
          rw [hv.out]
          try rfl
    case rest =>
      obtain ⟨k, tx, hv, hl, X10, X4, E4⟩ := hcut
      go_wp2_with fail
      refine wp_region_mix (fun W => BoxN W p10 29 #[.int .i64 k, .int .i64 (a : Int), .string tx, .bool g]) [(0, true), (1, true), (2, true), (3, true), (4, true), (5, true), (6, false), (7, true), (8, true)] (by kernel_rfl) (by kernel_rfl) (by kernel_rfl) (by kernel_rfl) (fun _ _ d _ _ h => by cases d <;> exact h) X10.out.drew ?_
      have u1 : IntKind.i64.wrap ((a : Int) + (tx.size : Int)) = ((a + tx.size : Nat) : Int) := by rw [IntWalk.i64_in _ (by have := hm.out; have := hl.out; omega)]; omega
      iterate 6
        apply mix_q rfl rfl
        · intro W hW
          have q0 := hW.cell 0 (v := .int .i64 k) rfl
          have q1 := hW.cell 1 (v := .int .i64 (a : Int)) rfl
          have q2 := hW.cell 2 (v := .string tx) rfl
          have q3 := hW.cell 3 (v := .bool g) rfl
          have qs := hW.lt
          go_simp
          try exact rfl
        simp only [Act.put, List.setIfInBounds_toArray, List.set_cons_zero, List.set_cons_succ]
      obtain ⟨wl, hwl⟩ : ∃ z, z = wc.drew := ⟨_, rfl⟩
      rw [← hwl]
      have Y4 : BoxN wl p4 29 #[.int .i64 0, .int .i64 0, .string ⟨#[]⟩, .bool false] := by rw [hwl]; exact X4.out.drew
      have Y10 : BoxN wl p10 29 #[.int .i64 k, .int .i64 (a : Int), .string tx, .bool g] := by rw [hwl]; exact X10.out.drew
      have YE : Ext w wl := by rw [hwl]; exact E4.out.drew
      have X5 := hide ((((Y4.set 0 (.int .i64 k)).set 1 (.int .i64 (a : Int))).set 2 (.string tx)).set 3 (.bool g))
      have E5 := hide ((((YE.setCell (p := ⟨p4, 0, none⟩) hle4.out (.int .i64 k)).setCell (p := ⟨p4, 1, none⟩) hle4.out (.int .i64 (a : Int))).setCell (p := ⟨p4, 2, none⟩) hle4.out (.string tx)).setCell (p := ⟨p4, 3, none⟩) hle4.out (.bool g))
      have Z10 := (((Y10.far (p := ⟨p4, 0, none⟩) hne.out.1 (.int .i64 k)).far (p := ⟨p4, 1, none⟩) hne.out.1 (.int .i64 (a : Int))).far (p := ⟨p4, 2, none⟩) hne.out.1 (.string tx)).far (p := ⟨p4, 3, none⟩) hne.out.1 (.bool g)
      replace Z10 := hide Z10
      have s4 := Y4.lt
      have f40 := Y4.free 0
      have f41 := Y4.free 1
      have f42 := Y4.free 2
      have f43 := Y4.free 3
      have k40 := Y4.cell 0 (v := .int .i64 0) rfl
      have k41 := Y4.cell 1 (v := .int .i64 0) rfl
      have k42 := Y4.cell 2 (v := .string ⟨#[]⟩) rfl
      have k43 := Y4.cell 3 (v := .bool false) rfl
      clear hwl Y10 YE X10 X4 E4
      replace Y4 := hide Y4
      refine mix_w rfl rfl (fun K hK => ?_)
      go_simp
      refine hK _ _ Z10.out ?_
      clear hK K
      try simp only [Act.put, List.setIfInBounds_toArray, List.set_cons_zero, List.set_cons_succ]
      iterate 2
        apply mix_q rfl rfl
        · intro W hW
          go_simp
          try exact rfl
        simp only [Act.put, List.setIfInBounds_toArray, List.set_cons_zero, List.set_cons_succ]
      refine mix_nil ?_
      go_wp2
      refine bodyPost_ret (results_cell3 rfl _ _ p4 29 #[.int .i64 k, .int .i64 (a : Int), .string tx, .bool g] _ _ rfl X5.out Tryd.underlying29 rfl (by kernel_rfl)) rfl ?_
      refine ⟨?_, E5.out⟩
      rw [hv.out]
      try rfl
end Go.Proofs.YtlianjnmfgakkaaDoor
