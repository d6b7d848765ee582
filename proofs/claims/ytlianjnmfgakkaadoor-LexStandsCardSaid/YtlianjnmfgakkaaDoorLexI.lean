/- The document's Next. -/
import Derived.Test.YtlianjnmfgakkaaDoorLexG
import Derived.Test.YtlianjnmfgakkaaDoorLexH
namespace Go.Proofs.YtlianjnmfgakkaaDoor
open Go.RowKit

theorem cz_dig (s : ByteArray) (q : Nat) : digZ (cz s q) = digZ (byt s q : Int) := by
  rw [← dig_byt]
  unfold cz
  by_cases ho : okR s q = true
  · rw [if_pos ho, ho, Bool.true_and]
  · rw [if_neg ho]
    simp at ho
    rw [ho]
    rfl
theorem ext_one {s : ByteArray} {a : Nat} (ha : a < s.size) {c : UInt8} (h : byt s a = c.toNat) : s.extract a (a + 1) = ⟨#[c]⟩ := by
  apply ByteArray.ext
  apply Array.ext
  · have : (s.extract a (a + 1)).size = 1 := by rw [ByteArray.size_extract]; omega
    exact this
  · intro i h1 h2
    have h3 : i = 0 := by simp at h2; omega
    subst h3
    have hz : 0 < (s.extract a (a + 1)).size := h1
    show (s.extract a (a + 1))[0]'hz = c
    rw [ByteArray.getElem_extract]
    have := byt_at (s := s) (p := a) ha
    apply UInt8.toNat_inj.1
    rw [← h, ← this]
    rfl
set_option maxRecDepth 100000 in
set_option maxHeartbeats 8000000 in
theorem refNext_any (s : ByteArray) (p : Nat) (hp : p ≤ s.size) (hm : s.size ≤ 1000000) (w : World) :
    Calls Tryd.prog 14 #[.string s, .int .i64 (p : Int)] w fun e w' => e = .returned (.tuple #[tokV (nextN s p).1, .int .i64 ((nextN s p).2.1 : Int), .int .i64 (nextN s p).2.2]) ∧ Ext w w' := by
  have hmx : 1000000 ≤ maxLen := by decide
  obtain ⟨N, hN⟩ : ∃ N, N = nextN s p := ⟨_, rfl⟩
  have hge := skip_ge s p
  have hle := skip_le s p hp
  unfold nextN at hN
  obtain ⟨sk, hsk⟩ : ∃ z, z = skipN s p := ⟨_, rfl⟩
  have hN0 : nextN s p = N := by rw [hN]; rfl
  rw [hN0]
  clear hN0
  rw [← hsk] at hN hge hle
  obtain ⟨a, ok⟩ := sk
  simp only at hN hge hle
  replace hN := hide hN
  replace hmx := hide hmx
  replace hm := hide hm
  go_enter Tryd.func14, Tryd.ntmps14
  go_upto_region 1 with fail
  obtain ⟨w0, hw0⟩ : ∃ w0, w0 = w.alloc (.cells #[.int .i64 0, .int .i64 0, .string ⟨#[]⟩, .bool false] 29) := ⟨_, rfl⟩
  rw [← hw0]
  have E4 : Ext w w0 := by rw [hw0]; exact (Below.refl _ _).alloc (Nat.le_refl _) _
  have X4 : BoxN w0 w.heap.size 29 #[.int .i64 0, .int .i64 0, .string ⟨#[]⟩, .bool false] := by rw [hw0]; exact BoxN.new w _ _
  clear hw0
  obtain ⟨p4, hp4⟩ : ∃ b, b = w.heap.size := ⟨_, rfl⟩
  rw [← hp4] at X4 ⊢
  have hle4 : w.heap.size ≤ p4 := by omega
  clear hp4
  replace hle4 := hide hle4
  go_wp2_with fail
  refine (refSkip_any s p hp (by have := hm.out; omega) _).mono ?_
  rintro e w1 ⟨rfl, hE⟩
  rw [← hsk]
  simp only
  replace X4 := hide (X4.ext hE)
  replace E4 := hide (E4.trans (hE.mono E4.size))
  clear hE
  replace hsk := hide hsk
  have hle' : (a : Int) ≤ (s.size : Int) := by omega
  obtain ⟨g, hg⟩ : ∃ g, g = glueN s p a := ⟨_, rfl⟩
  rw [← hg] at hN
  replace hg := hide hg
  replace hN := hide hN.out
  cases ok with
  | false =>
    have hv : Hid (N = (zeroT, a, 120)) := hide (by rw [hN.out, if_pos rfl])
    have X5 := (((X4.out.set 0 (.int .i64 0)).set 1 (.int .i64 0)).set 2 (.string ⟨#[]⟩)).set 3 (.bool false)
    have E5 := (((E4.out.setCell (p := ⟨p4, 0, none⟩) hle4 (.int .i64 0)).setCell (p := ⟨p4, 1, none⟩) hle4 (.int .i64 0)).setCell (p := ⟨p4, 2, none⟩) hle4 (.string ⟨#[]⟩)).setCell (p := ⟨p4, 3, none⟩) hle4 (.bool false)
    have s4 := X4.out.lt
    have f40 := X4.out.free 0
    have f41 := X4.out.free 1
    have f42 := X4.out.free 2
    have f43 := X4.out.free 3
    have k40 := X4.out.cell 0 (v := .int .i64 0) rfl
    have k41 := X4.out.cell 1 (v := .int .i64 0) rfl
    have k42 := X4.out.cell 2 (v := .string ⟨#[]⟩) rfl
    have k43 := X4.out.cell 3 (v := .bool false) rfl
    replace X5 := hide X5
    replace E5 := hide E5
    go_wp2
    refine bodyPost_ret (results_cell3 rfl _ _ p4 29 #[(.int .i64 0), (.int .i64 0), (.string ⟨#[]⟩), (.bool false)] _ _ rfl X5.out Tryd.underlying29 rfl (by kernel_rfl)) rfl ?_
    refine ⟨?_, E5.out⟩
    rw [hv.out]
    try rfl
  | true =>
    go_upto_region 4 with fail
    go_cut [9] from 27 to 57 (fun s9 wx => ∃ p10, s9 = .pointer (some ⟨p10, 0, none⟩) ∧ Hid (BoxN wx p10 29 #[.int .i64 0, .int .i64 (a : Int), .string ⟨#[]⟩, .bool g]) ∧ Hid (BoxN wx p4 29 #[.int .i64 0, .int .i64 0, .string ⟨#[]⟩, .bool false]) ∧ Hid (p10 ≠ p4 ∧ w.heap.size ≤ p10) ∧ Hid (Ext w wx))
    case first =>
      by_cases hap : a = p
      · subst hap
        by_cases ha0 : a = 0
        · have hgv : Hid (g = false) := hide (by rw [hg.out]; unfold glueN; rw [decide_eq_false (show ¬ 0 < a by omega)]; simp)
          have e3 : ¬ (0 : Int) < (a : Int) := by omega
          replace ha0 := hide ha0
          go_wp2
          go_meet
          case rel =>
            refine ⟨_, rfl, hide ?_, hide (X4.out.ext ?_), hide ⟨?_, ?_⟩, hide ?_⟩
            · rw [hgv.out]; exact BoxN.new _ _ _
            · exact (Below.refl _ _).alloc (Nat.le_refl _) _
            · have := X4.out.lt; omega
            · exact E4.out.size
            · exact E4.out.alloc E4.out.size _
        · have ha1 : a - 1 < s.size := by omega
          obtain ⟨b, hb⟩ : ∃ b, b = byt s (a - 1) := ⟨_, rfl⟩
          have hx : (s[a - 1]'ha1).toNat = b := by rw [hb]; exact byt_at ha1
          have e3 : (0 : Int) < (a : Int) := by omega
          have e4 : IntKind.i64.wrap ((a : Int) - 1) = ((a - 1 : Nat) : Int) := by rw [IntWalk.i64_in _ (by have := hm.out; omega)]; omega
          have hgl : g = (!blankB b && !decide (b = 10)) := by rw [hg.out]; unfold glueN; rw [decide_eq_true rfl, decide_eq_true (show 0 < a by omega), ← hb]; rfl
          unfold blankB at hgl
          replace hb := hide hb
          replace ha0 := hide ha0
          by_cases h32 : b = 32
          · have hgv : Hid (g = false) := hide (by rw [hgl, decide_eq_true h32]; rfl)
            replace hgl := hide hgl
            subst h32
            skip
            go_wp2
            go_meet
            case rel =>
              refine ⟨_, rfl, hide ?_, hide (X4.out.ext ?_), hide ⟨?_, ?_⟩, hide ?_⟩
              · rw [hgv.out]; exact BoxN.new _ _ _
              · exact (Below.refl _ _).alloc (Nat.le_refl _) _
              · have := X4.out.lt; omega
              · exact E4.out.size
              · exact E4.out.alloc E4.out.size _
          · have f32 : ((b : Int) == 32) = false := by rw [beq_eq_false_iff_ne]; omega
            have f32' : ((b : Int) != 32) = true := by rw [bne, f32]; rfl
            by_cases h9 : b = 9
            · have hgv : Hid (g = false) := hide (by rw [hgl, decide_eq_true h9, Bool.or_true]; rfl)
              replace hgl := hide hgl
              subst h9
              skip
              go_wp2
              go_meet
              case rel =>
                refine ⟨_, rfl, hide ?_, hide (X4.out.ext ?_), hide ⟨?_, ?_⟩, hide ?_⟩
                · rw [hgv.out]; exact BoxN.new _ _ _
                · exact (Below.refl _ _).alloc (Nat.le_refl _) _
                · have := X4.out.lt; omega
                · exact E4.out.size
                · exact E4.out.alloc E4.out.size _
            · have f9 : ((b : Int) == 9) = false := by rw [beq_eq_false_iff_ne]; omega
              have f9' : ((b : Int) != 9) = true := by rw [bne, f9]; rfl
              by_cases h10 : b = 10
              · have hgv : Hid (g = false) := hide (by rw [hgl, decide_eq_true h10, Bool.not_true, Bool.and_false])
                replace hgl := hide hgl
                subst h10
                skip
                go_wp2
                go_meet
                case rel =>
                  refine ⟨_, rfl, hide ?_, hide (X4.out.ext ?_), hide ⟨?_, ?_⟩, hide ?_⟩
                  · rw [hgv.out]; exact BoxN.new _ _ _
                  · exact (Below.refl _ _).alloc (Nat.le_refl _) _
                  · have := X4.out.lt; omega
                  · exact E4.out.size
                  · exact E4.out.alloc E4.out.size _
              · have hgv : Hid (g = true) := hide (by rw [hgl, decide_eq_false h32, decide_eq_false h9, decide_eq_false h10]; rfl)
                have f10 : ((b : Int) == 10) = false := by rw [beq_eq_false_iff_ne]; omega
                have f10' : ((b : Int) != 10) = true := by rw [bne, f10]; rfl
                replace hgl := hide hgl
                replace h32 := hide h32; replace h9 := hide h9; replace h10 := hide h10
                go_wp2
                go_meet
                case rel =>
                  refine ⟨_, rfl, hide ?_, hide (X4.out.ext ?_), hide ⟨?_, ?_⟩, hide ?_⟩
                  · rw [hgv.out]; exact BoxN.new _ _ _
                  · exact (Below.refl _ _).alloc (Nat.le_refl _) _
                  · have := X4.out.lt; omega
                  · exact E4.out.size
                  · exact E4.out.alloc E4.out.size _
      · have hgv : Hid (g = false) := hide (by rw [hg.out]; unfold glueN; rw [decide_eq_false hap]; rfl)
        have e1 : ((a : Int) == (p : Int)) = false := by rw [beq_eq_false_iff_ne]; omega
        have e2 : ¬ (a : Int) = (p : Int) := by omega
        replace hap := hide hap
        go_wp2
        go_meet
        case rel =>
          refine ⟨_, rfl, hide ?_, hide (X4.out.ext ?_), hide ⟨?_, ?_⟩, hide ?_⟩
          · rw [hgv.out]; exact BoxN.new _ _ _
          · exact (Below.refl _ _).alloc (Nat.le_refl _) _
          · have := X4.out.lt; omega
          · exact E4.out.size
          · exact E4.out.alloc E4.out.size _
    case rest =>
      obtain ⟨p10, rfl, X10, X4, hne, E4⟩ := hcut
      by_cases hlt : a < s.size
      · have hN1 := hN.out
        rw [if_neg (by decide), if_neg (by omega)] at hN1
        have g1 : ((a : Int) == (s.size : Int)) = false := by rw [beq_eq_false_iff_ne]; omega
        have g2 : ¬ (a : Int) = (s.size : Int) := by omega
        have hal : a < s.size := hlt
        replace hN1 := hide hN1
        replace hlt := hide hlt
        clear hN
        have hlen : (s.extract a s.size).size = s.size - a := by simp
        obtain ⟨t1, t2, t3⟩ := tail_okR s a
        have hfa := first_any (s.extract a s.size)
        rw [t1, t2, t3] at hfa
        replace hfa := hide hfa
        replace t1 := hide t1
        replace t2 := hide t2
        replace t3 := hide t3
        replace hlen := hide hlen
        go_wp2_with fail
        refine (hfa.out _ (by have := hmx.out; have := hm.out; have := hlen.out; omega) (by have := hlen.out; omega)).mono ?_
        rintro e w1 ⟨rfl, hE1⟩
        replace X4 := hide (X4.out.ext hE1)
        replace X10 := hide (X10.out.ext hE1)
        replace E4 := hide (E4.out.trans (hE1.mono E4.out.size))
        rw [show (if okR s a = true then ((rune s a : Nat) : Int) else -1) = cz s a from rfl, show (if okR s a = true then ((width s a : Nat) : Int) else 1) = wz s a from rfl]
        clear hE1 hfa t1 t2 t3 hlen
        obtain ⟨y1, hy1⟩ : ∃ y, y = cz s a := ⟨_, rfl⟩
        obtain ⟨y2, hy2⟩ : ∃ y, y = wz s a := ⟨_, rfl⟩
        rw [← hy1, ← hy2]
        replace hy1 := hide hy1
        replace hy2 := hide hy2
        go_upto_block 0 with fail
        go_cut [12, 13, 14, 15, 16] from 71 to 132 (fun _ _ _ _ _ wx => ∃ (k : Int) (tx : ByteArray), Hid (N = (⟨k, a, tx, g⟩, a + tx.size, 0)) ∧ Hid (a + tx.size ≤ s.size) ∧ Hid (BoxN wx p10 29 #[.int .i64 k, .int .i64 (a : Int), .string tx, .bool g]) ∧ Hid (BoxN wx p4 29 #[.int .i64 0, .int .i64 0, .string ⟨#[]⟩, .bool false]) ∧ Hid (Ext w wx))
        case first =>
          have hbb : ∀ c : Nat, c < 128 → (y1 = (c : Int) ↔ byt s a = c) := fun c h => by rw [hy1.out]; exact cz_byte h
          by_cases h10 : y1 = 10
          · have hb10 := (hbb 10 (by decide)).1 h10
            have hv : Hid (N = (⟨4, a, ⟨#[10]⟩, false⟩, a + 1, 0)) := hide (by rw [hN1.out, if_pos hb10, ext_one (c := 10) hal (hb10.trans rfl)])
            have u1 : IntKind.i64.wrap ((a : Int) + 1) = (a : Int) + 1 := IntWalk.i64_in _ (by have := hm.out; omega)
            clear hbb
            replace hb10 := hide hb10
            subst h10
            have X5 := (((X4.out.set 0 (.int .i64 4)).set 1 (.int .i64 (a : Int))).set 2 (.string ⟨#[10]⟩)).set 3 (.bool false)
            have E5 := (((E4.out.setCell (p := ⟨p4, 0, none⟩) hle4 (.int .i64 4)).setCell (p := ⟨p4, 1, none⟩) hle4 (.int .i64 (a : Int))).setCell (p := ⟨p4, 2, none⟩) hle4 (.string ⟨#[10]⟩)).setCell (p := ⟨p4, 3, none⟩) hle4 (.bool false)
            have s4 := X4.out.lt
            have f40 := X4.out.free 0
            have f41 := X4.out.free 1
            have f42 := X4.out.free 2
            have f43 := X4.out.free 3
            have k40 := X4.out.cell 0 (v := .int .i64 0) rfl
            have k41 := X4.out.cell 1 (v := .int .i64 0) rfl
            have k42 := X4.out.cell 2 (v := .string ⟨#[]⟩) rfl
            have k43 := X4.out.cell 3 (v := .bool false) rfl
            replace X5 := hide X5
            replace E5 := hide E5
            go_wp2
            refine bodyPost_ret (results_cell3 rfl _ _ p4 29 #[(.int .i64 4), (.int .i64 (a : Int)), (.string ⟨#[10]⟩), (.bool false)] _ _ rfl X5.out Tryd.underlying29 rfl (by kernel_rfl)) rfl ?_
            refine ⟨?_, E5.out⟩
            rw [hv.out]
            try rfl
          · have hb10 : ¬ byt s a = 10 := fun e => h10 ((hbb 10 (by decide)).2 e)
            have hN2 := hN1.out
            rw [if_neg hb10] at hN2
            have e10 : (y1 == 10) = false := beq_eq_false_iff_ne.2 h10
            clear hN1
            by_cases hsg : y1 = 46 ∨ y1 = 45
            · have hbs : byt s a = 46 ∨ byt s a = 45 := hsg.imp (hbb 46 (by decide)).1 (hbb 45 (by decide)).1
              have hw1 : wz s a = 1 := by
                rw [(cz_ok (s := s) (q := a) (by rw [← hy1.out]; omega)).2.2, (rune_small (s := s) (p := a) (by rcases hbs with h | h <;> (unfold byt at h; omega))).2.1]
                rfl
              obtain ⟨a1, ha1⟩ : ∃ z, z = a + 1 := ⟨_, rfl⟩
              obtain ⟨tx, htx⟩ : ∃ t, t = s.extract a a1 := ⟨_, rfl⟩
              have hsz1 : tx.size = 1 := by rw [htx, ByteArray.size_extract]; omega
              have hv : Hid (N = (⟨3, a, tx, g⟩, a + tx.size, 0)) := hide (by rw [hN2, if_pos hbs, ← ha1, ← htx, hsz1, ← ha1])
              have hl : Hid (a + tx.size ≤ s.size) := hide (by omega)
              have hy2' : y2 = 1 := hy2.out.trans hw1
              have u1 : IntKind.i64.wrap ((a : Int) + 1) = (a1 : Int) := by rw [IntWalk.i64_in _ (by have := hm.out; omega)]; omega
              have u2 : (a : Int) ≤ (a1 : Int) := by omega
              have u3 : (a1 : Int) ≤ (s.size : Int) := by omega
              have u4 : a1 ≤ s.size := by omega
              have u5 : a ≤ a1 := by omega
              replace ha1 := hide ha1
              replace hN2 := hide hN2
              replace hbs := hide hbs
              replace hw1 := hide hw1
              replace htx := hide htx
              replace hsz1 := hide hsz1
              clear hbb
              subst hy2'
              have htx' := htx.out.symm
              rcases hsg with hsg | hsg
              · clear e10 h10
                subst hsg
                go_wp2_with fail
                have s10 := X10.out.lt
                have f10 := X10.out.free 0
                have f12 := X10.out.free 2
                have Z10 := (X10.out.drew.set 0 (.int .i64 3)).set 2 (.string tx)
                have Z4 := (X4.out.drew.far (p := ⟨p10, 0, none⟩) (Ne.symm hne.out.1) (.int .i64 3)).far (p := ⟨p10, 2, none⟩) (Ne.symm hne.out.1) (.string tx)
                have ZE := (E4.out.drew.setCell (p := ⟨p10, 0, none⟩) hne.out.2 (.int .i64 3)).setCell (p := ⟨p10, 2, none⟩) hne.out.2 (.string tx)
                obtain ⟨wl, hwl⟩ : ∃ z, z = w1.drew := ⟨_, rfl⟩
                have s10' : p10 < wl.heap.size := by rw [hwl]; exact s10
                have f10' : wl.frozen? ⟨p10, 0, none⟩ = false := by rw [hwl]; exact f10
                have f12' : wl.frozen? ⟨p10, 2, none⟩ = false := by rw [hwl]; exact f12
                have k10' : wl.cell? ⟨p10, 0, none⟩ = some (.int .i64 0) := by rw [hwl]; exact X10.out.cell 0 rfl
                have k12' : wl.cell? ⟨p10, 2, none⟩ = some (.string ⟨#[]⟩) := by rw [hwl]; exact X10.out.cell 2 rfl
                rw [← hwl] at Z10 Z4 ZE
                replace Z10 := hide Z10
                replace Z4 := hide Z4
                replace ZE := hide ZE
                clear s10 f10 f12
                refine wp_region_mix (fun _ => True) [(0, true), (1, true), (2, true), (3, true), (4, true), (5, true), (6, true), (7, false), (8, true), (9, false)] (by kernel_rfl) (by kernel_rfl) (by kernel_rfl) (by kernel_rfl) (fun _ _ d _ _ h => by cases d <;> exact h) trivial ?_
                rw [← hwl]
                clear hwl
                iterate 7
                  apply mix_q rfl rfl
                  · intro W _
                    go_simp
                    try exact rfl
                  simp only [Act.put, List.setIfInBounds_toArray, List.set_cons_zero, List.set_cons_succ]
                iterate 1
                  refine mix_w rfl rfl (fun K hK => ?_)
                  go_simp
                  refine hK _ _ trivial ?_
                  clear hK K
                  try simp only [Act.put, List.setIfInBounds_toArray, List.set_cons_zero, List.set_cons_succ]
                iterate 1
                  apply mix_q rfl rfl
                  · intro W _
                    go_simp
                    try exact rfl
                  simp only [Act.put, List.setIfInBounds_toArray, List.set_cons_zero, List.set_cons_succ]
                iterate 1
                  refine mix_w rfl rfl (fun K hK => ?_)
                  go_simp
                  refine hK _ _ trivial ?_
                  clear hK K
                  try simp only [Act.put, List.setIfInBounds_toArray, List.set_cons_zero, List.set_cons_succ]
                refine mix_nil ?_
                go_wp2
                go_meet
                case rel => exact ⟨_, _, hv, hl, Z10, Z4, ZE⟩
              · clear e10 h10
                subst hsg
                go_wp2_with fail
                have s10 := X10.out.lt
                have f10 := X10.out.free 0
                have f12 := X10.out.free 2
                have Z10 := (X10.out.drew.set 0 (.int .i64 3)).set 2 (.string tx)
                have Z4 := (X4.out.drew.far (p := ⟨p10, 0, none⟩) (Ne.symm hne.out.1) (.int .i64 3)).far (p := ⟨p10, 2, none⟩) (Ne.symm hne.out.1) (.string tx)
                have ZE := (E4.out.drew.setCell (p := ⟨p10, 0, none⟩) hne.out.2 (.int .i64 3)).setCell (p := ⟨p10, 2, none⟩) hne.out.2 (.string tx)
                obtain ⟨wl, hwl⟩ : ∃ z, z = w1.drew := ⟨_, rfl⟩
                have s10' : p10 < wl.heap.size := by rw [hwl]; exact s10
                have f10' : wl.frozen? ⟨p10, 0, none⟩ = false := by rw [hwl]; exact f10
                have f12' : wl.frozen? ⟨p10, 2, none⟩ = false := by rw [hwl]; exact f12
                have k10' : wl.cell? ⟨p10, 0, none⟩ = some (.int .i64 0) := by rw [hwl]; exact X10.out.cell 0 rfl
                have k12' : wl.cell? ⟨p10, 2, none⟩ = some (.string ⟨#[]⟩) := by rw [hwl]; exact X10.out.cell 2 rfl
                rw [← hwl] at Z10 Z4 ZE
                replace Z10 := hide Z10
                replace Z4 := hide Z4
                replace ZE := hide ZE
                clear s10 f10 f12
                refine wp_region_mix (fun _ => True) [(0, true), (1, true), (2, true), (3, true), (4, true), (5, true), (6, true), (7, false), (8, true), (9, false)] (by kernel_rfl) (by kernel_rfl) (by kernel_rfl) (by kernel_rfl) (fun _ _ d _ _ h => by cases d <;> exact h) trivial ?_
                rw [← hwl]
                clear hwl
                iterate 7
                  apply mix_q rfl rfl
                  · intro W _
                    go_simp
                    try exact rfl
                  simp only [Act.put, List.setIfInBounds_toArray, List.set_cons_zero, List.set_cons_succ]
                iterate 1
                  refine mix_w rfl rfl (fun K hK => ?_)
                  go_simp
                  refine hK _ _ trivial ?_
                  clear hK K
                  try simp only [Act.put, List.setIfInBounds_toArray, List.set_cons_zero, List.set_cons_succ]
                iterate 1
                  apply mix_q rfl rfl
                  · intro W _
                    go_simp
                    try exact rfl
                  simp only [Act.put, List.setIfInBounds_toArray, List.set_cons_zero, List.set_cons_succ]
                iterate 1
                  refine mix_w rfl rfl (fun K hK => ?_)
                  go_simp
                  refine hK _ _ trivial ?_
                  clear hK K
                  try simp only [Act.put, List.setIfInBounds_toArray, List.set_cons_zero, List.set_cons_succ]
                refine mix_nil ?_
                go_wp2
                go_meet
                case rel => exact ⟨_, _, hv, hl, Z10, Z4, ZE⟩
            · have h46 : ¬ y1 = 46 := fun e => hsg (.inl e)
              have h45 : ¬ y1 = 45 := fun e => hsg (.inr e)
              have hbs : ¬ (byt s a = 46 ∨ byt s a = 45) := fun e => hsg (e.imp (hbb 46 (by decide)).2 (hbb 45 (by decide)).2)
              rw [if_neg hbs] at hN2
              have e46 : (y1 == 46) = false := beq_eq_false_iff_ne.2 h46
              have e45 : (y1 == 45) = false := beq_eq_false_iff_ne.2 h45
              have hdz : digZ y1 = digZ (byt s a : Int) := by rw [hy1.out]; exact cz_dig s a
              rw [← hdz] at hN2
              replace hN2 := hide hN2
              replace hbs := hide hbs
              replace hdz := hide hdz
              replace hb10 := hide hb10
              clear hbb hsg
              go_wp2_with fail
              refine (refDigit_any y1 _).mono ?_
              rintro e w2 ⟨rfl, hw⟩
              subst hw
              cases hd : digZ y1 with
              | true =>
                have hN3 := hN2.out
                rw [if_pos hd] at hN3
                have hdb : digZ (byt s a : Int) = true := by rw [← hdz.out]; exact hd
                have hnum := refNumber_any s a hal hdb (by have := hm.out; omega)
                have hkl := stp_le s digB a hle
                have hgk := dig_go hal hdb
                have hgk2 := stp_ge s digB (a + 1)
                obtain ⟨k, hk⟩ : ∃ k, k = stp s digB a := ⟨_, rfl⟩
                rw [← hk] at hnum hN3 hkl hgk
                obtain ⟨R, hR⟩ : ∃ R : ByteArray × Nat × Int, R = (if byt s a = 48 ∧ a + 1 < k then (⟨#[]⟩, a + 1, 120) else if fitB (s.extract a k) = true then (s.extract a k, k, 0) else (⟨#[]⟩, a, 121)) := ⟨_, rfl⟩
                rw [← hR] at hnum
                have hcs : (R.2.2 = 0 ∧ N = (⟨2, a, R.1, g⟩, a + R.1.size, 0) ∧ a + R.1.size ≤ s.size) ∨ (R.2.2 ≠ 0 ∧ N = (zeroT, R.2.1, R.2.2)) := by
                  rw [hN3, hR]
                  by_cases c1 : byt s a = 48 ∧ a + 1 < k
                  · rw [if_pos c1, if_pos c1]; exact .inr ⟨by simp, rfl⟩
                  · rw [if_neg c1, if_neg c1]
                    by_cases c2 : fitB (s.extract a k) = true
                    · rw [if_pos c2, if_pos c2]
                      have hz : (s.extract a k).size = k - a := by rw [ByteArray.size_extract]; omega
                      refine .inl ⟨rfl, ?_, ?_⟩
                      · simp only
                        rw [hz, show a + (k - a) = k by omega]
                      · simp only
                        rw [hz]
                        omega
                    · rw [if_neg c2, if_neg c2]; exact .inr ⟨by simp, rfl⟩
                obtain ⟨R1, R2, R3⟩ := R
                simp only at hcs hnum
                replace hnum := hide hnum
                replace hR := hide hR
                replace hk := hide hk
                replace hgk := hide hgk
                replace hkl := hide hkl
                replace hN3 := hide hN3
                replace hdb := hide hdb
                replace hd := hide hd
                clear hgk2
                go_wp2_with fail
                refine (hnum.out _).mono ?_
                rintro e w2 ⟨rfl, hE⟩
                replace X4 := hide (X4.out.ext hE)
                replace X10 := hide (X10.out.ext hE)
                replace E4 := hide (E4.out.trans (hE.mono E4.out.size))
                clear hE
                rcases hcs with ⟨c1, c2, c3⟩ | ⟨c1, c2⟩
                · have hv := hide c2
                  have hl := hide c3
                  clear c2 c3
                  subst c1
                  have s10 := X10.out.lt
                  have f10 := X10.out.free 0
                  have f12 := X10.out.free 2
                  have k10 := X10.out.cell 0 (v := .int .i64 0) rfl
                  have k12 := X10.out.cell 2 (v := .string ⟨#[]⟩) rfl
                  have Z10 := hide ((X10.out.set 0 (.int .i64 2)).set 2 (.string R1))
                  have Z4 := hide ((X4.out.far (p := ⟨p10, 0, none⟩) (Ne.symm hne.out.1) (.int .i64 2)).far (p := ⟨p10, 2, none⟩) (Ne.symm hne.out.1) (.string R1))
                  have ZE := hide ((E4.out.setCell (p := ⟨p10, 0, none⟩) hne.out.2 (.int .i64 2)).setCell (p := ⟨p10, 2, none⟩) hne.out.2 (.string R1))
                  go_wp2
                  go_meet
                  case rel => exact ⟨_, _, hv, hl, Z10, Z4, ZE⟩
                · have hv := hide c2
                  have q1 : (R3 == 0) = false := beq_eq_false_iff_ne.2 c1
                  have q2 : (R3 != 0) = true := by rw [bne, q1]; rfl
                  clear c2
                  have X5 := (((X4.out.set 0 (.int .i64 0)).set 1 (.int .i64 0)).set 2 (.string ⟨#[]⟩)).set 3 (.bool false)
                  have E5 := (((E4.out.setCell (p := ⟨p4, 0, none⟩) hle4 (.int .i64 0)).setCell (p := ⟨p4, 1, none⟩) hle4 (.int .i64 0)).setCell (p := ⟨p4, 2, none⟩) hle4 (.string ⟨#[]⟩)).setCell (p := ⟨p4, 3, none⟩) hle4 (.bool false)
                  have s4 := X4.out.lt
                  have f40 := X4.out.free 0
                  have f41 := X4.out.free 1
                  have f42 := X4.out.free 2
                  have f43 := X4.out.free 3
                  have k40 := X4.out.cell 0 (v := .int .i64 0) rfl
                  have k41 := X4.out.cell 1 (v := .int .i64 0) rfl
                  have k42 := X4.out.cell 2 (v := .string ⟨#[]⟩) rfl
                  have k43 := X4.out.cell 3 (v := .bool false) rfl
                  replace X5 := hide X5
                  replace E5 := hide E5
                  go_wp2
                  refine bodyPost_ret (results_cell3 rfl _ _ p4 29 #[(.int .i64 0), (.int .i64 0), (.string ⟨#[]⟩), (.bool false)] _ _ rfl X5.out Tryd.underlying29 rfl (by kernel_rfl)) rfl ?_
                  refine ⟨?_, E5.out⟩
                  rw [hv.out]
                  try rfl
              | false =>
                have hN3 := hN2.out
                rw [if_neg (by rw [hd]; decide)] at hN3
                have hst := stp_eq_iff (G := eitherB) hal
                rw [cz_either, ← hy1.out, hd, Bool.or_false] at hst
                have hkl := stp_le s eitherB a hle
                have hkg := stp_ge s eitherB a
                have hwa := refWordAt_any s a hle (by have := hm.out; omega)
                obtain ⟨k, hk⟩ : ∃ k, k = stp s eitherB a := ⟨_, rfl⟩
                rw [← hk] at hN3 hst hkl hkg hwa
                replace hN3 := hide hN3
                replace hd := hide hd
                replace hst := hide hst
                replace hwa := hide hwa
                replace hk := hide hk
                go_wp2_with fail
                refine (refLetter_any y1 _).mono ?_
                rintro e w3 ⟨rfl, hw⟩
                subst hw
                cases hlz : letZ y1 with
                | true =>
                  have hka : k ≠ a := fun e => by have := hst.out.1 e; rw [hlz] at this; cases this
                  replace hlz := hide hlz
                  by_cases h24 : k ≤ a + 24
                  · have hwb := hwa.out
                    rw [if_pos h24, decide_eq_true h24] at hwb
                    obtain ⟨tx, htx⟩ : ∃ t, t = s.extract a k := ⟨_, rfl⟩
                    have hz : tx.size = k - a := by rw [htx, ByteArray.size_extract]; omega
                    have hv : Hid (N = (⟨1, a, tx, g⟩, a + tx.size, 0)) := hide (by rw [hN3.out, if_neg hka, if_neg (by omega), hz, ← htx, show a + (k - a) = k by omega])
                    have hl : Hid (a + tx.size ≤ s.size) := hide (by omega)
                    have u2 : (a : Int) ≤ (k : Int) := by omega
                    have u3 : (k : Int) ≤ (s.size : Int) := by omega
                    have htx' := htx.symm
                    replace htx := hide htx
                    replace hz := hide hz
                    replace hwb := hide hwb
                    replace hka := hide hka
                    replace h24 := hide h24
                    go_wp2_with fail
                    refine (hwb.out _).mono ?_
                    rintro e w2 ⟨rfl, hE⟩
                    replace X4 := hide (X4.out.ext hE)
                    replace X10 := hide (X10.out.ext hE)
                    replace E4 := hide (E4.out.trans (hE.mono E4.out.size))
                    clear hE
                    go_wp2_with fail
                    have s10 := X10.out.lt
                    have f10 := X10.out.free 0
                    have f12 := X10.out.free 2
                    have Z10 := (X10.out.drew.set 0 (.int .i64 1)).set 2 (.string tx)
                    have Z4 := (X4.out.drew.far (p := ⟨p10, 0, none⟩) (Ne.symm hne.out.1) (.int .i64 1)).far (p := ⟨p10, 2, none⟩) (Ne.symm hne.out.1) (.string tx)
                    have ZE := (E4.out.drew.setCell (p := ⟨p10, 0, none⟩) hne.out.2 (.int .i64 1)).setCell (p := ⟨p10, 2, none⟩) hne.out.2 (.string tx)
                    obtain ⟨wl, hwl⟩ : ∃ z, z = w2.drew := ⟨_, rfl⟩
                    have s10' : p10 < wl.heap.size := by rw [hwl]; exact s10
                    have f10' : wl.frozen? ⟨p10, 0, none⟩ = false := by rw [hwl]; exact f10
                    have f12' : wl.frozen? ⟨p10, 2, none⟩ = false := by rw [hwl]; exact f12
                    have k10' : wl.cell? ⟨p10, 0, none⟩ = some (.int .i64 0) := by rw [hwl]; exact X10.out.cell 0 rfl
                    have k12' : wl.cell? ⟨p10, 2, none⟩ = some (.string ⟨#[]⟩) := by rw [hwl]; exact X10.out.cell 2 rfl
                    rw [← hwl] at Z10 Z4 ZE
                    replace Z10 := hide Z10
                    replace Z4 := hide Z4
                    replace ZE := hide ZE
                    clear s10 f10 f12
                    refine wp_region_mix (fun _ => True) [(0, true), (1, true), (2, true), (3, true), (4, true), (5, false), (6, true), (7, false)] (by kernel_rfl) (by kernel_rfl) (by kernel_rfl) (by kernel_rfl) (fun _ _ d _ _ h => by cases d <;> exact h) trivial ?_
                    rw [← hwl]
                    clear hwl
                    iterate 5
                      apply mix_q rfl rfl
                      · intro W _
                        go_simp
                        try exact rfl
                      simp only [Act.put, List.setIfInBounds_toArray, List.set_cons_zero, List.set_cons_succ]
                    iterate 1
                      refine mix_w rfl rfl (fun K hK => ?_)
                      go_simp
                      refine hK _ _ trivial ?_
                      clear hK K
                      try simp only [Act.put, List.setIfInBounds_toArray, List.set_cons_zero, List.set_cons_succ]
                    iterate 1
                      apply mix_q rfl rfl
                      · intro W _
                        go_simp
                        try exact rfl
                      simp only [Act.put, List.setIfInBounds_toArray, List.set_cons_zero, List.set_cons_succ]
                    iterate 1
                      refine mix_w rfl rfl (fun K hK => ?_)
                      go_simp
                      refine hK _ _ trivial ?_
                      clear hK K
                      try simp only [Act.put, List.setIfInBounds_toArray, List.set_cons_zero, List.set_cons_succ]
                    refine mix_nil ?_
                    go_wp2
                    go_meet
                    case rel => exact ⟨_, _, hv, hl, Z10, Z4, ZE⟩
                  · have hwb := hwa.out
                    rw [if_neg h24, decide_eq_false h24] at hwb
                    obtain ⟨lg, hlg⟩ : ∃ q, q = lng s a a := ⟨_, rfl⟩
                    rw [← hlg] at hwb
                    have hv : Hid (N = (zeroT, lg, 120)) := hide (by rw [hN3.out, if_neg hka, if_pos (by omega), hlg])
                    replace hlg := hide hlg
                    replace hwb := hide hwb
                    replace hka := hide hka
                    replace h24 := hide h24
                    go_wp2_with fail
                    refine (hwb.out _).mono ?_
                    rintro e w2 ⟨rfl, hE⟩
                    replace X4 := hide (X4.out.ext hE)
                    replace X10 := hide (X10.out.ext hE)
                    replace E4 := hide (E4.out.trans (hE.mono E4.out.size))
                    clear hE
                    have X5 := (((X4.out.set 0 (.int .i64 0)).set 1 (.int .i64 0)).set 2 (.string ⟨#[]⟩)).set 3 (.bool false)
                    have E5 := (((E4.out.setCell (p := ⟨p4, 0, none⟩) hle4 (.int .i64 0)).setCell (p := ⟨p4, 1, none⟩) hle4 (.int .i64 0)).setCell (p := ⟨p4, 2, none⟩) hle4 (.string ⟨#[]⟩)).setCell (p := ⟨p4, 3, none⟩) hle4 (.bool false)
                    have s4 := X4.out.lt
                    have f40 := X4.out.free 0
                    have f41 := X4.out.free 1
                    have f42 := X4.out.free 2
                    have f43 := X4.out.free 3
                    have k40 := X4.out.cell 0 (v := .int .i64 0) rfl
                    have k41 := X4.out.cell 1 (v := .int .i64 0) rfl
                    have k42 := X4.out.cell 2 (v := .string ⟨#[]⟩) rfl
                    have k43 := X4.out.cell 3 (v := .bool false) rfl
                    replace X5 := hide X5
                    replace E5 := hide E5
                    go_wp2
                    refine bodyPost_ret (results_cell3 rfl _ _ p4 29 #[(.int .i64 0), (.int .i64 0), (.string ⟨#[]⟩), (.bool false)] _ _ rfl X5.out Tryd.underlying29 rfl (by kernel_rfl)) rfl ?_
                    refine ⟨?_, E5.out⟩
                    rw [hv.out]
                    try rfl
                | false =>
                  have hv : Hid (N = (zeroT, a, 120)) := hide (by rw [hN3.out, if_pos (hst.out.2 hlz)])
                  replace hlz := hide hlz
                  have X5 := (((X4.out.set 0 (.int .i64 0)).set 1 (.int .i64 0)).set 2 (.string ⟨#[]⟩)).set 3 (.bool false)
                  have E5 := (((E4.out.setCell (p := ⟨p4, 0, none⟩) hle4 (.int .i64 0)).setCell (p := ⟨p4, 1, none⟩) hle4 (.int .i64 0)).setCell (p := ⟨p4, 2, none⟩) hle4 (.string ⟨#[]⟩)).setCell (p := ⟨p4, 3, none⟩) hle4 (.bool false)
                  have s4 := X4.out.lt
                  have f40 := X4.out.free 0
                  have f41 := X4.out.free 1
                  have f42 := X4.out.free 2
                  have f43 := X4.out.free 3
                  have k40 := X4.out.cell 0 (v := .int .i64 0) rfl
                  have k41 := X4.out.cell 1 (v := .int .i64 0) rfl
                  have k42 := X4.out.cell 2 (v := .string ⟨#[]⟩) rfl
                  have k43 := X4.out.cell 3 (v := .bool false) rfl
                  replace X5 := hide X5
                  replace E5 := hide E5
                  go_wp2
                  refine bodyPost_ret (results_cell3 rfl _ _ p4 29 #[(.int .i64 0), (.int .i64 0), (.string ⟨#[]⟩), (.bool false)] _ _ rfl X5.out Tryd.underlying29 rfl (by kernel_rfl)) rfl ?_
                  refine ⟨?_, E5.out⟩
                  rw [hv.out]
                  try rfl
        case rest =>
          obtain ⟨k, tx, hv, hl, X10, X4, E4⟩ := hcut
          go_wp2_with fail
          refine wp_region_mix (fun W => BoxN W p10 29 #[.int .i64 k, .int .i64 (a : Int), .string tx, .bool g]) [(0, true), (1, true), (2, true), (3, true), (4, true), (5, true), (6, false), (7, true), (8, true)] (by kernel_rfl) (by kernel_rfl) (by kernel_rfl) (by kernel_rfl) (fun _ _ d _ _ h => by cases d <;> exact h) X10.out.drew ?_
          have u1 : IntKind.i64.wrap ((a : Int) + (tx.size : Int)) = ((a + tx.size : Nat) : Int) := by rw [IntWalk.i64_in _ (by have := hm.out; have := hl.out; omega)]; omega
          iterate 6
            apply mix_q rfl rfl
            · intro W hW
              have q0 := hW.cell 0 (v := .int .i64 k) rfl
              have q1 := hW.cell 1 (v := .int .i64 (a : Int)) rfl
              have q2 := hW.cell 2 (v := .string tx) rfl
              have q3 := hW.cell 3 (v := .bool g) rfl
              have qs := hW.lt
              go_simp
              try exact rfl
            simp only [Act.put, List.setIfInBounds_toArray, List.set_cons_zero, List.set_cons_succ]
          obtain ⟨wl, hwl⟩ : ∃ z, z = wc.drew := ⟨_, rfl⟩
          rw [← hwl]
          have Y4 : BoxN wl p4 29 #[.int .i64 0, .int .i64 0, .string ⟨#[]⟩, .bool false] := by rw [hwl]; exact X4.out.drew
          have Y10 : BoxN wl p10 29 #[.int .i64 k, .int .i64 (a : Int), .string tx, .bool g] := by rw [hwl]; exact X10.out.drew
          have YE : Ext w wl := by rw [hwl]; exact E4.out.drew
          have X5 := hide ((((Y4.set 0 (.int .i64 k)).set 1 (.int .i64 (a : Int))).set 2 (.string tx)).set 3 (.bool g))
          have E5 := hide ((((YE.setCell (p := ⟨p4, 0, none⟩) hle4.out (.int .i64 k)).setCell (p := ⟨p4, 1, none⟩) hle4.out (.int .i64 (a : Int))).setCell (p := ⟨p4, 2, none⟩) hle4.out (.string tx)).setCell (p := ⟨p4, 3, none⟩) hle4.out (.bool g))
          have Z10 := (((Y10.far (p := ⟨p4, 0, none⟩) hne.out.1 (.int .i64 k)).far (p := ⟨p4, 1, none⟩) hne.out.1 (.int .i64 (a : Int))).far (p := ⟨p4, 2, none⟩) hne.out.1 (.string tx)).far (p := ⟨p4, 3, none⟩) hne.out.1 (.bool g)
          replace Z10 := hide Z10
          have s4 := Y4.lt
          have f40 := Y4.free 0
          have f41 := Y4.free 1
          have f42 := Y4.free 2
          have f43 := Y4.free 3
          have k40 := Y4.cell 0 (v := .int .i64 0) rfl
          have k41 := Y4.cell 1 (v := .int .i64 0) rfl
          have k42 := Y4.cell 2 (v := .string ⟨#[]⟩) rfl
          have k43 := Y4.cell 3 (v := .bool false) rfl
          clear hwl Y10 YE X10 X4 E4
          replace Y4 := hide Y4
          refine mix_w rfl rfl (fun K hK => ?_)
          go_simp
          refine hK _ _ Z10.out ?_
          clear hK K
          try simp only [Act.put, List.setIfInBounds_toArray, List.set_cons_zero, List.set_cons_succ]
          iterate 2
            apply mix_q rfl rfl
            · intro W hW
              go_simp
              try exact rfl
            simp only [Act.put, List.setIfInBounds_toArray, List.set_cons_zero, List.set_cons_succ]
          refine mix_nil ?_
          go_wp2
          refine bodyPost_ret (results_cell3 rfl _ _ p4 29 #[.int .i64 k, .int .i64 (a : Int), .string tx, .bool g] _ _ rfl X5.out Tryd.underlying29 rfl (by kernel_rfl)) rfl ?_
          refine ⟨?_, E5.out⟩
          rw [hv.out]
          try rfl
      · have hae : a = s.size := by omega
        have hv : Hid (N = (⟨5, a, ⟨#[]⟩, false⟩, a, 0)) := hide (by rw [hN.out, if_neg (by decide), if_pos hlt])
        clear hN
        have g1 : ((a : Int) == (s.size : Int)) = true := by rw [beq_iff_eq]; omega
        have g2 : (s.size : Int) = (a : Int) := by omega
        have X5 := (((X4.out.set 0 (.int .i64 5)).set 1 (.int .i64 (a : Int))).set 2 (.string ⟨#[]⟩)).set 3 (.bool false)
        have E5 := (((E4.out.setCell (p := ⟨p4, 0, none⟩) hle4 (.int .i64 5)).setCell (p := ⟨p4, 1, none⟩) hle4 (.int .i64 (a : Int))).setCell (p := ⟨p4, 2, none⟩) hle4 (.string ⟨#[]⟩)).setCell (p := ⟨p4, 3, none⟩) hle4 (.bool false)
        have s4 := X4.out.lt
        have f40 := X4.out.free 0
        have f41 := X4.out.free 1
        have f42 := X4.out.free 2
        have f43 := X4.out.free 3
        have k40 := X4.out.cell 0 (v := .int .i64 0) rfl
        have k41 := X4.out.cell 1 (v := .int .i64 0) rfl
        have k42 := X4.out.cell 2 (v := .string ⟨#[]⟩) rfl
        have k43 := X4.out.cell 3 (v := .bool false) rfl
        replace X5 := hide X5
        replace E5 := hide E5
        go_wp2
        refine bodyPost_ret (results_cell3 rfl _ _ p4 29 #[(.int .i64 5), (.int .i64 (a : Int)), (.string ⟨#[]⟩), (.bool false)] _ _ rfl X5.out Tryd.underlying29 rfl (by kernel_rfl)) rfl ?_
        refine ⟨?_, E5.out⟩
        rw [hv.out]
        try rfl
end Go.Proofs.YtlianjnmfgakkaaDoor
