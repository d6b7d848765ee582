/- NamesAll: the walk. -/
import Derived.Test.YtpfmbehhppbcnaaDoorNamF
import Derived.Test.YtpfmbehhppbcnaaDoorOpenT
namespace Go.Proofs.YtpfmbehhppbcnaaDoor
open Go.RowKit

theorem TRow.ext {w w' : World} {A : Option Addr} {L : List TArg} (h : TRow w A L) (hE : Ext w w') : TRow w' A L := by
  refine ⟨?_, fun s hs => ⟨(h.2 s hs).1.ext hE, (h.2 s hs).2⟩⟩
  rcases h.1 with h0 | ⟨b, off, e, hb, hc⟩
  · exact .inl h0
  · exact .inr ⟨b, off, e, Nat.lt_of_lt_of_le hb hE.size, fun i s hi => ((bcell hE).1 b _ hb).trans (hc i s hi)⟩
set_option maxRecDepth 100000 in
set_option maxHeartbeats 8000000 in
theorem namesAll_any (A1 : Option Addr) (n1 c1 : Nat) (LL : List TArg) (w : World) (hn1 : n1 = LL.length) (hm1 : n1 ≤ maxLen) (h1 : TRow w A1 LL) (hs1 : ∀ s ∈ LL, ∀ x ∈ s.2, x.size ≤ maxLen) (hU : LaidU w) :
    Calls Tryd.prog 3 #[.slice A1 n1 c1] w fun e w' => e = .returned (.bool true) ∧ Ext w w' := by
  replace hn1 := hide hn1
  replace h1 := hide h1
  replace hU := hide hU
  go_enter Tryd.func3, Tryd.ntmps3
  go_wp2_with fail
  refine (wakes_any _ hU.out).mono ?_
  rintro e w1 ⟨rfl, T⟩
  go_wp2
  go_loopw [16] (fun i wr => ∃ k : Nat, k ≤ n1 ∧ k ≤ 4 ∧ i = .int .i64 k ∧ Ext w wr) (fun i _ => n1 - (intOf i).toNat)
  case atStart => exact ⟨0, Nat.zero_le _, Nat.zero_le _, rfl, T⟩
  case round =>
    clear T
    obtain ⟨k, hk, hk4, rfl, T⟩ := hrel
    by_cases hlt : k < n1
    · have hlt' : (k : Int) < (n1 : Int) := by omega
      obtain ⟨⟨⟨Ar, nr, cr⟩, vs⟩, hs⟩ := get_some (xs := LL) (i := k) (by rw [← hn1.out]; exact hlt)
      have hmv : ∀ x ∈ vs, x.size ≤ maxLen := hs1 _ (List.mem_of_getElem? hs)
      obtain ⟨hR, hnr, hcr, hmr⟩ := (h1.out.ext T).2 _ (List.mem_of_getElem? hs)
      obtain ⟨bk, off, rfl, hbk, hcells⟩ : ∃ b off, A1 = some ⟨b, off, none⟩ ∧ b < wr.heap.size ∧ ∀ i s, LL[i]? = some s → wr.cell? ⟨b, off + i, none⟩ = some (.slice s.1.1 s.1.2.1 s.1.2.2) := by
        rcases (h1.out.ext T).1 with h0 | h0
        · rw [h0] at hs; cases hs
        · exact h0
      have hpc : wr.cell? ⟨bk, off + k, none⟩ = some (.slice Ar nr cr) := hcells k _ hs
      replace hnr : Hid (nr = vs.length) := hide hnr
      replace hcr : nr ≤ cr := hcr
      replace hmr : cr ≤ maxLen := hmr
      replace hR := hide hR
      replace hs := hide hs
      clear hcells
      by_cases h4 : k = 4
      · subst h4
        go_wp2
        go_ret
        exact ⟨rfl, T⟩
      · have h4' : ((k : Int) == 4) = false := by rw [beq_eq_false_iff_ne]; omega
        have h4'' : ¬ (k : Int) = 4 := by omega
        go_upto_region 7 with fail
        obtain ⟨q, hq⟩ : ∃ q, q = min nr 302 := ⟨_, rfl⟩
        have z1 : min (nr : Int) 302 = q := by omega
        have z2 : q ≤ nr := by omega
        have z3 : (q : Int) ≤ cr := by omega
        have z4 : q ≤ cr := by omega
        have z5 : q ≤ 302 := by omega
        have hlq : q = (vs.take q).length := by rw [List.length_take, ← hnr.out]; omega
        obtain ⟨l, hl⟩ : ∃ l, l = vs.take q := ⟨_, rfl⟩
        have hr := hide (hR.out.take q)
        have hml : ∀ x ∈ l, x.size ≤ maxLen := fun x hx => hmv x (by rw [hl] at hx; exact List.mem_of_mem_take hx)
        rw [← hl] at hlq hr
        replace hq := hide hq
        replace hlq := hide hlq
        replace hl := hide hl
        clear hpc
        have hsz := hide T.size
        go_cut [4] from 23 to 28 (fun s4 wx => ∃ v, s4 = v ∧ Hid (Own strE 9 wr.heap.size wx v l) ∧ Ext wr wx)
        case first =>
          cases Ar with
          | none =>
            have hws : vs = [] := by
              rcases hR.out with h | ⟨_, _, h, _⟩
              · exact h
              · cases h
            have hn0 : nr = 0 := by rw [hnr.out, hws]; rfl
            subst hn0
            obtain rfl : q = 0 := by omega
            go_wp2_with fail
            refine (cloneS_any none 0 _ _ _ hr.out hlq.out (by omega)).mono ?_
            rintro e w15 ⟨v, rfl, hO, hE⟩
            replace hO := hide hO
            go_wp2
            go_meet
            case rel => exact ⟨v, rfl, hO, hE⟩
          | some ad =>
            go_wp2_with fail
            refine (cloneS_any (some ad) q _ _ _ hr.out hlq.out (by omega)).mono ?_
            rintro e w15 ⟨v, rfl, hO, hE⟩
            replace hO := hide hO
            go_wp2
            go_meet
            case rel => exact ⟨v, rfl, hO, hE⟩
        case rest =>
          obtain ⟨v, rfl, hO, hE⟩ := hcut
          replace T := T.trans (hE.mono T.size)
          clear hE
          replace hO := hO.out
          clear z1 z3 z4
          obtain ⟨A13, c13, rfl, r13, hc13, -⟩ := hO.rd
          obtain ⟨n13, e13⟩ : ∃ m, m = (List.length l) := ⟨_, rfl⟩
          rw [← e13] at hc13 ⊢
          replace r13 := hide r13
          replace e13 := hide e13
          clear hO
          have hl13 : n13 ≤ 302 := by rw [e13.out, ← hlq.out]; exact z5
          go_wp2_with fail
          refine (cloneS_any A13 n13 c13 l _ r13.out e13.out (by omega)).mono ?_
          rintro e w16 ⟨v, rfl, hO, hE⟩
          replace T := T.trans (hE.mono T.size)
          replace r13 := hide (r13.out.ext hE)
          obtain ⟨A14, c14, rfl, r14, hc14, -⟩ := hO.rd
          obtain ⟨n14, e14⟩ : ∃ m, m = (List.length l) := ⟨_, rfl⟩
          rw [← e14] at hc14 ⊢
          replace r14 := hide r14
          replace e14 := hide e14
          clear hO
          have hl14 : n14 ≤ 302 := by rw [e14.out, ← e13.out]; exact hl13
          clear hE
          obtain ⟨ts, hts⟩ : ∃ x, x = (allF l).1 := ⟨_, rfl⟩
          obtain ⟨os, hos⟩ : ∃ x, x = (allF l).2.1 := ⟨_, rfl⟩
          obtain ⟨ez, hez⟩ : ∃ x, x = (allF l).2.2 := ⟨_, rfl⟩
          have hib := all_inv l
          rw [← hts, ← hos, ← e13.out] at hib
          obtain ⟨-, hi1, hi2⟩ := hib
          replace hts := hide hts
          replace hos := hide hos
          replace hez := hide hez
          go_wp2_with fail
          refine (all_any A13 n13 c13 l _ r13.out e13.out (by omega) hml (hU.out.ext T)).mono ?_
          rintro e w17 ⟨v, u, rfl, hO, hO2, hE⟩
          rw [← hts.out] at hO
          rw [← hos.out] at hO2
          rw [← hez.out]
          replace T := T.trans (hE.mono T.size)
          replace r13 := hide (r13.out.ext hE)
          replace r14 := hide (r14.out.ext hE)
          obtain ⟨A15, c15, rfl, r15, hc15, -⟩ := hO.rd
          obtain ⟨n15, e15⟩ : ∃ m, m = (List.length ts) := ⟨_, rfl⟩
          rw [← e15] at hc15 ⊢
          replace r15 := hide r15
          replace e15 := hide e15
          clear hO
          replace hO := hO2
          obtain ⟨A16, c16, rfl, r16, hc16, -⟩ := hO.rd
          obtain ⟨n16, e16⟩ : ∃ m, m = (List.length os) := ⟨_, rfl⟩
          rw [← e16] at hc16 ⊢
          replace r16 := hide r16
          replace e16 := hide e16
          clear hO
          clear hE hO2
          go_upto_region 10 with fail
          obtain ⟨w18, hw⟩ : ∃ x, x = w17.alloc (.cells #[.slice A15 n15 c15] 27) := ⟨_, rfl⟩
          rw [← hw]
          have hE : Ext w17 w18 := by rw [hw]; exact (Below.refl _ _).alloc (Nat.le_refl _) _
          have X6 : Box w18 w17.heap.size 27 (.slice A15 n15 c15) := by rw [hw]; exact Box.new _ _ _
          clear hw
          obtain ⟨p6, hp6⟩ : ∃ x, x = w17.heap.size := ⟨_, rfl⟩
          rw [← hp6] at X6 ⊢
          clear hp6
          replace T := T.trans (hE.mono T.size)
          replace r13 := hide (r13.out.ext hE)
          replace r14 := hide (r14.out.ext hE)
          replace r15 := hide (r15.out.ext hE)
          replace r16 := hide (r16.out.ext hE)
          clear hE
          go_wp2_with fail
          refine (refAll_any A14 n14 c14 l _ r14.out e14.out (by omega) hml).mono ?_
          rintro e w19 ⟨v, u, rfl, hO, hO2, hE⟩
          rw [← hts.out] at hO
          rw [← hos.out] at hO2
          rw [← hez.out]
          replace T := T.trans (hE.mono T.size)
          replace X6 := X6.ext hE
          replace r13 := hide (r13.out.ext hE)
          replace r14 := hide (r14.out.ext hE)
          replace r15 := hide (r15.out.ext hE)
          replace r16 := hide (r16.out.ext hE)
          obtain ⟨A17, c17, rfl, r17, hc17, -⟩ := hO.rd
          obtain ⟨n17, e17⟩ : ∃ m, m = (List.length ts) := ⟨_, rfl⟩
          rw [← e17] at hc17 ⊢
          replace r17 := hide r17
          replace e17 := hide e17
          clear hO
          replace hO := hO2
          obtain ⟨A18, c18, rfl, r18, hc18, -⟩ := hO.rd
          obtain ⟨n18, e18⟩ : ∃ m, m = (List.length os) := ⟨_, rfl⟩
          rw [← e18] at hc18 ⊢
          replace r18 := hide r18
          replace e18 := hide e18
          clear hO
          clear hE hO2
          go_upto_region 11 with fail
          obtain ⟨w20, hw⟩ : ∃ x, x = w19.alloc (.cells #[.slice A17 n17 c17] 27) := ⟨_, rfl⟩
          rw [← hw]
          have hE : Ext w19 w20 := by rw [hw]; exact (Below.refl _ _).alloc (Nat.le_refl _) _
          have X9 : Box w20 w19.heap.size 27 (.slice A17 n17 c17) := by rw [hw]; exact Box.new _ _ _
          clear hw
          obtain ⟨p9, hp9⟩ : ∃ x, x = w19.heap.size := ⟨_, rfl⟩
          rw [← hp9] at X9 ⊢
          clear hp9
          replace T := T.trans (hE.mono T.size)
          replace X6 := X6.ext hE
          replace r13 := hide (r13.out.ext hE)
          replace r14 := hide (r14.out.ext hE)
          replace r15 := hide (r15.out.ext hE)
          replace r16 := hide (r16.out.ext hE)
          replace r17 := hide (r17.out.ext hE)
          replace r18 := hide (r18.out.ext hE)
          clear hE
          have g0 : (ez != ez) = false := by simp
          go_wp2_with fail
          refine (equalI_any A16 A18 n16 c16 n18 c18 os os _ r16.out r18.out e16.out e18.out (by have := e16.out; omega)).mono ?_
          rintro e w21 ⟨rfl, hE⟩
          replace T := T.trans (hE.mono T.size)
          replace X6 := X6.ext hE
          replace X9 := X9.ext hE
          replace r13 := hide (r13.out.ext hE)
          replace r14 := hide (r14.out.ext hE)
          replace r15 := hide (r15.out.ext hE)
          replace r17 := hide (r17.out.ext hE)
          clear hE
          have k6 := X6.cell
          have s6 := X6.lt
          have k9 := X9.cell
          have s9 := X9.lt
          rw [decide_eq_true rfl]
          go_wp2_with fail
          refine (refSame_any A15 A17 n15 c15 n17 c17 ts ts _ r15.out e15.out (by have := e15.out; omega) r17.out e17.out).mono ?_
          rintro e w22 ⟨rfl, hE⟩
          replace T := T.trans (hE.mono T.size)
          replace r13 := hide (r13.out.ext hE)
          replace r14 := hide (r14.out.ext hE)
          clear hE k6 s6 k9 s9 X6 X9
          rw [decide_eq_true rfl]
          go_wp2_with fail
          refine (equalS_any A13 A14 n13 c13 n14 c14 l l _ r13.out r14.out e13.out e14.out (by omega)).mono ?_
          rintro e w23 ⟨rfl, hE⟩
          replace T := T.trans (hE.mono T.size)
          clear hE
          rw [decide_eq_true rfl]
          go_wp2
          refine ⟨?_, ?_⟩
          · first
              | exact ⟨k + 1, by omega, by omega, by go_num, T⟩
              | ((repeat apply Exists.intro); exact ⟨⟨k + 1, by omega, by omega, by go_num, T⟩, rfl⟩)
          · first | (simp [intOf, lenV]; omega) | (simp [intOf]; omega) | (simp [intOf]; done)
    · have hlt' : ¬ (k : Int) < (n1 : Int) := by omega
      go_wp2
      go_ret
      exact ⟨rfl, T⟩
end Go.Proofs.YtpfmbehhppbcnaaDoor
