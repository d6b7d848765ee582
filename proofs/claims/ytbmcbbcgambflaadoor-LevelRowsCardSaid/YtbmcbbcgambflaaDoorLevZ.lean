/- LevelRows: assignments that are uniform, have another level, and stand to one another. -/
import Derived.Test.YtbmcbbcgambflaaDoorLevX
import Derived.Deep.DeepCutAuto
import Derived.Deep.CutBlock
namespace Go.Proofs.YtbmcbbcgambflaaDoor
open Go.RowKit

theorem leB_LeL : ∀ {xs ys : List Int}, xs.length = ys.length → (leB xs ys = true ↔ LeL xs ys)
  | [], [], _ => by simp [leB, LeL]
  | x :: xs, y :: ys, h => by
    rw [leB, Bool.and_eq_true, decide_eq_true_iff, leB_LeL (by simpa using h)]
    exact Iff.rfl
theorem isBelow_leB {xs ys : List Int} (h : eachE xs ys = 0) : isBelow xs ys = leB xs ys := by
  obtain ⟨h1, h2, h3⟩ := eachE_zero.1 h
  rw [Bool.eq_iff_iff, isBelow_iff, leB_LeL h3]
  exact ⟨fun h => h.2.2, fun h => ⟨h1, h2, h⟩⟩
theorem isBelow_not {xs ys : List Int} (h : eachE xs ys ≠ 0) : isBelow xs ys = false := by
  unfold isBelow
  rw [if_neg h]
theorem chk2_one {xs : List Int} {l : Int} : chk2 xs [l] = if (allL xs && lvl l) = true then 0 else 190 := by
  unfold chk2
  have : allL [l] = lvl l := by simp [allL]
  rw [this]
  by_cases h : (allL xs && lvl l) = true
  · rw [if_pos h, if_pos (by simpa using h)]
  · rw [if_neg h, if_neg (by simpa using h)]
theorem uniL_le (n l : Int) : (uniL n l).length ≤ 1000000 := by
  unfold uniL
  split
  · rename_i h
    unfold uniE at h
    split at h
    · exact absurd h (by decide)
    · rw [List.length_replicate]; omega
  · exact Nat.zero_le _
theorem uniL_rep {k : Nat} {l : Int} (h : uniE k l = 0) : uniL k l = List.replicate k l := by
  unfold uniL
  rw [if_pos h]
  rfl
theorem uniL_nil {n l : Int} (h : uniE n l ≠ 0) : uniL n l = [] := by
  unfold uniL
  rw [if_neg h]
theorem withL_le (xs : List Int) (n l : Int) : (withL xs n l).length ≤ xs.length := by
  unfold withL
  split
  · rw [List.length_set]; exact Nat.le_refl _
  · exact Nat.zero_le _
theorem withE_bad {xs : List Int} {n l : Int} (h : (allL xs && lvl l) = false) : withE xs n l = 190 := by
  unfold withE
  rw [chk2_one, h]
  rfl
theorem withE_good {xs : List Int} {n l : Int} (h1 : allL xs = true) (h2 : lvl l = true) : withE xs n l = if 0 ≤ n ∧ n < xs.length then 0 else 2 := by
  unfold withE
  rw [chk2_one, h1, h2]
  rfl
theorem withL_nil {xs : List Int} {n l : Int} (h : withE xs n l ≠ 0) : withL xs n l = [] := by
  unfold withL
  rw [if_neg h]
theorem eachE_is (xs ys : List Int) : eachE xs ys = if (!(allL xs && allL ys)) = true then 190 else if xs.length = ys.length then 0 else 2 := by
  unfold eachE chk2
  cases allL xs <;> cases allL ys <;> simp
set_option maxRecDepth 100000 in
set_option maxHeartbeats 8000000 in
theorem levelRows_any (A1 A2 : Option Addr) (n1 c1 n2 c2 : Nat) (xs ys : List Int) (n l : Int) (w : World) (hn1 : n1 = xs.length) (hc1 : n1 ≤ c1) (h1 : Rd intE w.heap.size w A1 xs) (hn2 : n2 = ys.length) (hc2 : n2 ≤ c2) (h2 : Rd intE w.heap.size w A2 ys) (hL : LaidAt w) :
    Calls Tryd.prog 7 #[.slice A1 n1 c1, .slice A2 n2 c2, .agg #[.int .i64 n, .int .i64 l]] w fun e w' => e = .returned (.bool true) ∧ Ext w w' := by
  replace hn1 := hide hn1
  replace hn2 := hide hn2
  replace h1 := hide h1
  replace h2 := hide h2
  replace hc1 := hide hc1
  replace hc2 := hide hc2
  replace hL := hide hL
  go_enter Tryd.func7, Tryd.ntmps7
  go_wp2_with fail
  obtain ⟨w0, hw0⟩ : ∃ w0, w0 = w.alloc (.cells #[.int .i64 n, .int .i64 l] 46) := ⟨_, rfl⟩
  rw [← hw0]
  have hw : Hid (Ext w w0) := hide (by rw [hw0]; exact (Below.refl _ _).alloc (Nat.le_refl _) _)
  have hsz0 : w.heap.size < w0.heap.size := by rw [hw0]; simp
  have hxa : Hid (w0.cell? ⟨w.heap.size, 0, none⟩ = some (.int .i64 n)) := hide (by rw [hw0]; simp [World.cell?_alloc_new])
  have hxb : Hid (w0.cell? ⟨w.heap.size, 1, none⟩ = some (.int .i64 l)) := hide (by rw [hw0]; simp [World.cell?_alloc_new])
  clear hw0
  refine (wakes_any _ (hL.out.ext hw.out)).mono ?_
  rintro e w1 ⟨rfl, hB⟩
  clear hL
  go_wp2_with fail
  refine (few_any A1 n1 c1 xs _ hn1.out hc1.out (h1.out.ext (hw.out.trans (hB.mono hw.out.size)))).mono ?_
  rintro e w' ⟨va, rfl, hO, hE⟩
  obtain ⟨Aa, ca, rfl, ra, -, -⟩ := hO.rd
  have ba : (xs.take 40).length ≤ 1000000 := by rw [List.length_take]; omega
  have hfa : Hid (xs.take 40 = xs.take 40) := hide rfl
  generalize hla : xs.take 40 = la at *
  replace hla := hide hla
  clear hfa hO
  obtain ⟨na, ea⟩ : ∃ n, n = la.length := ⟨_, rfl⟩
  rw [← ea] at ba ⊢
  replace ea := hide ea
  replace ra := hide ra
  replace hB := hB.trans (hE.mono hB.size)
  clear hE
  go_wp2_with fail
  refine (few_any A2 n2 c2 ys _ hn2.out hc2.out (h2.out.ext (hw.out.trans (hB.mono hw.out.size)))).mono ?_
  rintro e w' ⟨vb, rfl, hO, hE⟩
  obtain ⟨Ab, cb, rfl, rb, -, -⟩ := hO.rd
  have bb : (ys.take 40).length ≤ 1000000 := by rw [List.length_take]; omega
  generalize hlb : ys.take 40 = lb at *
  replace hlb := hide hlb
  clear hO
  obtain ⟨nb, eb⟩ : ∃ n, n = lb.length := ⟨_, rfl⟩
  rw [← eb] at bb ⊢
  replace eb := hide eb
  replace rb := hide rb
  replace ra := hide (ra.out.ext hE)
  replace hB := hB.trans (hE.mono hB.size)
  clear hE
  have hx0 : w'.cell? ⟨w.heap.size, 0, none⟩ = some (.int .i64 n) := ((bcell hB).1 _ _ hsz0).trans hxa.out
  have hx1 : w'.cell? ⟨w.heap.size, 1, none⟩ = some (.int .i64 l) := ((bcell hB).1 _ _ hsz0).trans hxb.out
  have hbx : w.heap.size < w'.heap.size := Nat.lt_of_lt_of_le hsz0 hB.size
  go_wp2
  refine wp_region_reads [(0, true), (1, true), (2, true), (3, true), (4, true), (5, true)] (by kernel_rfl) (by kernel_rfl) (by kernel_rfl) (by kernel_rfl) (fun _ _ d _ _ h => by cases d <;> exact h) ?_
  iterate 6
    apply mix_q rfl rfl
    · intro W hW
      subst hW
      go_simp
      try exact rfl
    simp only [Act.put, List.setIfInBounds_toArray, List.set_cons_zero, List.set_cons_succ]
  refine mix_nil ?_
  clear hx0 hx1 hbx hxa hxb
  go_wp2_with fail
  replace hB := hB.drew
  replace ra := hide (ra.out.ext ((Below.refl _ _).drew))
  replace rb := hide (rb.out.ext ((Below.refl _ _).drew))
  generalize w'.drew = w3 at *
  refine (uniform_any n l _).mono ?_
  rintro e w4 ⟨vu, rfl, hO, hE⟩
  obtain ⟨Au, cu, rfl, ru, -, -⟩ := hO.rd
  have bu : (uniL n l).length ≤ 1000000 := uniL_le n l
  obtain ⟨lu, hlu⟩ : ∃ lu, lu = uniL n l := ⟨_, rfl⟩
  obtain ⟨eu, heu⟩ : ∃ eu, eu = uniE n l := ⟨_, rfl⟩
  rw [← hlu] at ru bu ⊢
  rw [← heu]
  obtain ⟨nu, hnu⟩ : ∃ n, n = lu.length := ⟨_, rfl⟩
  rw [← hnu] at bu ⊢
  replace hlu := hide hlu
  replace heu := hide heu
  replace hnu := hide hnu
  replace ru := hide ru
  replace ra := hide (ra.out.ext hE)
  replace rb := hide (rb.out.ext hE)
  clear hO
  replace hB := hB.trans (hE.mono hB.size)
  clear hE
  go_upto_block 0 with fail
  go_cut [13, 14] from 37 to 55 (fun s13 s14 wx => s13 = .int .i64 eu ∧ ∃ A c, s14 = .slice A nu c ∧ Hid (Rd intE wx.heap.size wx A lu) ∧ Ext w4 wx)
  case first =>
    clear ra rb ru hla hlb ea eb ba bb bu h1 h2 hn1 hn2 hc1 hc2 hw hsz0
    by_cases h0 : n < 0
    · have hE0 : eu = 2 := by rw [heu.out]; unfold uniE; rw [if_pos (.inl h0)]
      have hL0 : lu = [] := by rw [hlu.out, uniL_nil (by rw [← heu.out, hE0]; decide)]
      have hN0 : nu = 0 := by rw [hnu.out, hL0]; rfl
      clear heu hlu hnu
      subst hE0 hL0 hN0
      go_wp2
      go_meet
      case rel => exact ⟨rfl, none, 0, rfl, hide (.inl rfl), Below.refl _ _⟩
    by_cases h1 : 1000 < n
    · have hE0 : eu = 2 := by rw [heu.out]; unfold uniE; rw [if_pos (.inr h1)]
      have hL0 : lu = [] := by rw [hlu.out, uniL_nil (by rw [← heu.out, hE0]; decide)]
      have hN0 : nu = 0 := by rw [hnu.out, hL0]; rfl
      clear heu hlu hnu
      subst hE0 hL0 hN0
      go_wp2
      go_meet
      case rel => exact ⟨rfl, none, 0, rfl, hide (.inl rfl), Below.refl _ _⟩
    obtain ⟨k, hnk⟩ : ∃ k : Nat, n = k := ⟨n.toNat, by omega⟩
    subst hnk
    have hk : (k : Int) ≤ 1000 := by omega
    cases hlv : lvl l with
    | false =>
      have hE0 : eu = 190 := by rw [heu.out]; unfold uniE; rw [if_neg (by omega), chk_out hlv]
      have hL0 : lu = [] := by rw [hlu.out, uniL_nil (by rw [← heu.out, hE0]; decide)]
      have hN0 : nu = 0 := by rw [hnu.out, hL0]; rfl
      replace hlv := hide hlv
      clear heu hlu hnu
      subst hE0 hL0 hN0
      go_wp2_with fail
      refine (right_any l _).mono ?_
      rintro e w5 ⟨rfl, rfl⟩
      rw [hlv.out]
      go_wp2
      go_meet
      case rel => exact ⟨rfl, none, 0, rfl, hide (.inl rfl), Below.refl _ _⟩
    | true =>
      have hE0 : eu = 0 := by rw [heu.out]; unfold uniE; rw [if_neg (by omega), chk_in hlv]
      have hL0 : lu = List.replicate k l := by rw [hlu.out, uniL_rep (by rw [← heu.out, hE0])]
      have hN0 : nu = k := by rw [hnu.out, hL0, List.length_replicate]
      replace hlv := hide hlv
      clear heu hlu hnu
      replace hL0 := hide hL0
      subst hE0 hN0
      go_wp2_with fail
      refine (right_any l _).mono ?_
      rintro e w5 ⟨rfl, rfl⟩
      rw [hlv.out]
      go_wp2
      go_loopw [14, 38] (fun o i wr => ∃ m : Nat, m ≤ nu ∧ i = .int .i64 m ∧ Hid (Own intE 3 w5.heap.size wr o (List.replicate m l)) ∧ Ext w5 wr) (fun _ i _ => nu - (intOf i).toNat)
      case atStart => exact ⟨0, Nat.zero_le _, rfl, hide Own.nil_, Below.refl _ _⟩
      case round =>
        clear hB
        obtain ⟨m, hm, rfl, hO, hB⟩ := hrel
        have hsz := hB.size
        by_cases hlt : m < nu
        · obtain ⟨A, c, rfl, -, -, -⟩ := hO.out.rd
          replace hO := hO.out
          rw [List.length_replicate] at hO ⊢
          replace hO := hide hO
          have hon := own_new (base := 0) (e := 3) intE wr l wr.heap.size rfl (Nat.zero_le _)
          obtain ⟨A4, c4, hv1, hr4, -, -⟩ := hon.rd
          injection hv1 with hv2 hv3 hv4
          subst hv2
          clear hon hv3 hv4
          replace hr4 := hide hr4
          have hO1 := hide (hO.out.alloc (.cells (intE.cs l).toArray 3))
          go_wp2_with (at_builtin; refine wpList_app tyInt rfl (.tmp 40) (.tmp 42) rfl rfl hO1.out rfl hr4.out rfl (by simp; omega) (by simp; omega) ?_)
          intro v' w' hown' hg hne' hnil
          have hB' : Ext w5 w' := Own.below hO1.out (hB.alloc hsz _) hg (by simp; omega)
          have hown2 : Hid (Own intE 3 w5.heap.size w' v' (List.replicate (m + 1) l)) := hide (by rw [List.replicate_succ']; exact hown')
          clear hown' hne' hnil hg hO1 hr4
          go_wp2
          refine ⟨?_, ?_⟩
          · first
              | exact ⟨m + 1, by omega, by go_num, hown2, hB'⟩
              | ((repeat apply Exists.intro); exact ⟨⟨m + 1, by omega, by go_num, hown2, hB'⟩, rfl⟩)
          · first | (simp [intOf, lenV]; omega) | (simp [intOf]; omega) | (simp [intOf]; done)
        · obtain rfl : m = nu := by omega
          obtain ⟨A, c, rfl, hr, -, -⟩ := hO.out.rd
          rw [← hL0.out] at hr
          rw [List.length_replicate]
          replace hr := hide hr
          go_wp2
          go_meet
          case rel => exact ⟨rfl, A, c, rfl, hr, hB⟩
  case rest =>
    obtain ⟨rfl, Av, cv, rfl, rv, hE⟩ := hcut
    go_wp2_with fail
    refine (equal_any _ _ _ _ _ _ lu lu _ (ru.out.ext hE) rv.out hnu.out hnu.out bu bu).mono ?_
    rintro e w5 ⟨rfl, hE5⟩
    rw [decide_eq_true rfl]
    replace hE := hE.trans (hE5.mono hE.size)
    replace ra := hide (ra.out.ext hE)
    replace rb := hide (rb.out.ext hE)
    replace hB := hB.trans (hE.mono hB.size)
    clear hE
    clear ru rv hE5 hlu heu hnu bu
    go_wp2_with fail
    refine (with_any _ _ _ la n l _ ea.out ba ra.out).mono ?_
    rintro e w6 ⟨vw, rfl, hO, hE⟩
    obtain ⟨Aw, cw, rfl, rw_, -, -⟩ := hO.rd
    have bw : (withL la n l).length ≤ 1000000 := Nat.le_trans (withL_le la n l) (by rw [← ea.out]; exact ba)
    obtain ⟨lw, hlw⟩ : ∃ lw, lw = withL la n l := ⟨_, rfl⟩
    obtain ⟨ew, hew⟩ : ∃ ew, ew = withE la n l := ⟨_, rfl⟩
    rw [← hlw] at rw_ bw ⊢
    rw [← hew]
    obtain ⟨nw, hnw⟩ : ∃ n, n = lw.length := ⟨_, rfl⟩
    rw [← hnw] at bw ⊢
    replace hlw := hide hlw
    replace hew := hide hew
    replace hnw := hide hnw
    replace rw_ := hide rw_
    replace ra := hide (ra.out.ext hE)
    replace rb := hide (rb.out.ext hE)
    clear hO
    replace hB := hB.trans (hE.mono hB.size)
    clear hE
    go_upto_block 3 with fail
    go_cut [13, 14] from 72 to 95 (fun s13 s14 wx => s13 = .int .i64 ew ∧ ∃ A c, s14 = .slice A nw c ∧ Hid (Rd intE wx.heap.size wx A lw) ∧ Ext w6 wx)
    case first =>
      clear rb hlb eb bb h2 hn2 hc2 bw
      cases hal : allL la with
      | false =>
        have hE0 : ew = 190 := by rw [hew.out]; exact withE_bad (by rw [hal]; rfl)
        replace hal := hide hal
        go_wp2_with fail
        refine (refAll_any _ _ _ la _ ra.out ea.out ba).mono ?_
        rintro e w7 ⟨rfl, rfl⟩
        rw [hal.out]
        have hL0 : lw = [] := by rw [hlw.out, withL_nil (by rw [← hew.out, hE0]; decide)]
        have hN0 : nw = 0 := by rw [hnw.out, hL0]; rfl
        clear hew hlw hnw
        subst hE0 hL0 hN0
        go_wp2
        go_meet
        case rel => exact ⟨rfl, none, 0, rfl, hide (.inl rfl), Below.refl _ _⟩
      | true =>
        cases hlv : lvl l with
        | false =>
          have hE0 : ew = 190 := by rw [hew.out]; exact withE_bad (by rw [hal, hlv]; rfl)
          replace hal := hide hal
          replace hlv := hide hlv
          go_wp2_with fail
          refine (refAll_any _ _ _ la _ ra.out ea.out ba).mono ?_
          rintro e w7 ⟨rfl, rfl⟩
          rw [hal.out]
          go_wp2_with fail
          refine (right_any l _).mono ?_
          rintro e w8 ⟨rfl, rfl⟩
          rw [hlv.out]
          have hL0 : lw = [] := by rw [hlw.out, withL_nil (by rw [← hew.out, hE0]; decide)]
          have hN0 : nw = 0 := by rw [hnw.out, hL0]; rfl
          clear hew hlw hnw
          subst hE0 hL0 hN0
          go_wp2
          go_meet
          case rel => exact ⟨rfl, none, 0, rfl, hide (.inl rfl), Below.refl _ _⟩
        | true =>
          have hgo := withE_good (n := n) hal hlv
          replace hal := hide hal
          replace hlv := hide hlv
          replace hgo := hide hgo
          by_cases h0 : n < 0
          · have hE0 : ew = 2 := by rw [hew.out, hgo.out, if_neg (by omega)]
            go_wp2_with fail
            refine (refAll_any _ _ _ la _ ra.out ea.out ba).mono ?_
            rintro e w7 ⟨rfl, rfl⟩
            rw [hal.out]
            go_wp2_with fail
            refine (right_any l _).mono ?_
            rintro e w8 ⟨rfl, rfl⟩
            rw [hlv.out]
            have hL0 : lw = [] := by rw [hlw.out, withL_nil (by rw [← hew.out, hE0]; decide)]
            have hN0 : nw = 0 := by rw [hnw.out, hL0]; rfl
            clear hew hlw hnw
            subst hE0 hL0 hN0
            go_wp2
            go_meet
            case rel => exact ⟨rfl, none, 0, rfl, hide (.inl rfl), Below.refl _ _⟩
          by_cases h1n : (na : Int) ≤ n
          · have hE0 : ew = 2 := by rw [hew.out, hgo.out, if_neg (by rw [← ea.out]; omega)]
            go_wp2_with fail
            refine (refAll_any _ _ _ la _ ra.out ea.out ba).mono ?_
            rintro e w7 ⟨rfl, rfl⟩
            rw [hal.out]
            go_wp2_with fail
            refine (right_any l _).mono ?_
            rintro e w8 ⟨rfl, rfl⟩
            rw [hlv.out]
            have hL0 : lw = [] := by rw [hlw.out, withL_nil (by rw [← hew.out, hE0]; decide)]
            have hN0 : nw = 0 := by rw [hnw.out, hL0]; rfl
            clear hew hlw hnw
            subst hE0 hL0 hN0
            go_wp2
            go_meet
            case rel => exact ⟨rfl, none, 0, rfl, hide (.inl rfl), Below.refl _ _⟩
          obtain ⟨k, hnk⟩ : ∃ k : Nat, n = k := ⟨n.toNat, by omega⟩
          subst hnk
          have hk : k < na := by omega
          have hE0 : ew = 0 := by rw [hew.out, hgo.out, if_pos (by rw [← ea.out]; omega)]
          have hL0 : lw = la.set k l := by rw [hlw.out]; unfold withL; rw [if_pos (by rw [← hew.out]; exact hE0)]; rfl
          have hN0 : nw = na := by rw [hnw.out, hL0, List.length_set, ← ea.out]
          clear hew hlw hnw hgo h0
          replace hL0 := hide hL0
          subst hE0 hN0
          go_wp2_with fail
          refine (refAll_any _ _ _ la _ ra.out ea.out ba).mono ?_
          rintro e w7 ⟨rfl, rfl⟩
          rw [hal.out]
          go_wp2_with fail
          refine (right_any l _).mono ?_
          rintro e w8 ⟨rfl, rfl⟩
          rw [hlv.out]
          go_wp2_with fail
          refine (few_any A1 n1 c1 xs _ hn1.out hc1.out (h1.out.ext (hw.out.trans (hB.mono hw.out.size)))).mono ?_
          rintro e w9 ⟨v9, rfl, hO, hE⟩
          rw [hla.out] at hO
          obtain ⟨A9, c9, rfl, -, hcc, -⟩ := hO.rd
          rw [← ea.out] at hO hcc ⊢
          obtain ⟨g, u, rfl, hg1, hg2, hg3, hg4, hS⟩ := hO.setInt hk l
          have hki : (k : Int) < (nw : Int) := by omega
          obtain ⟨A8, c8, hv8, r8, -, -⟩ := hS.rd
          injection hv8 with e1 e2 e3
          subst e1
          rw [← hL0.out] at r8
          replace r8 := hide r8
          clear hO hS e2 e3
          go_wp2
          go_meet
          case rel => exact ⟨rfl, _, _, rfl, r8, hE.setCell hg1 _⟩
    case rest =>
      obtain ⟨rfl, Av, cv, rfl, rv, hE⟩ := hcut
      go_wp2_with fail
      refine (equal_any _ _ _ _ _ _ lw lw _ (rw_.out.ext hE) rv.out hnw.out hnw.out bw bw).mono ?_
      rintro e w7 ⟨rfl, hE5⟩
      rw [decide_eq_true rfl]
      replace hE := hE.trans (hE5.mono hE.size)
      replace ra := hide (ra.out.ext hE)
      replace rb := hide (rb.out.ext hE)
      replace hB := hB.trans (hE.mono hB.size)
      clear hE
      clear rw_ rv hE5 hlw hew hnw bw
      go_upto_region 29 with fail
      go_cut [112] from 105 to 112 (fun s112 wx => s112 = .bool (!(allL la && allL lb)) ∧ wx = w7)
      case first =>
        cases hal : allL la with
        | false =>
          replace hal := hide hal
          go_wp2_with fail
          refine (refAll_any _ _ _ la _ ra.out ea.out ba).mono ?_
          rintro e w8 ⟨rfl, rfl⟩
          rw [hal.out]
          go_wp2
          go_meet
          case rel => exact ⟨by rw [hal.out]; rfl, rfl⟩
        | true =>
          replace hal := hide hal
          go_wp2_with fail
          refine (refAll_any _ _ _ la _ ra.out ea.out ba).mono ?_
          rintro e w8 ⟨rfl, rfl⟩
          rw [hal.out]
          go_wp2_with fail
          refine (refAll_any _ _ _ lb _ rb.out eb.out bb).mono ?_
          rintro e w8 ⟨rfl, rfl⟩
          go_wp2
          go_meet
          case rel => exact ⟨by rw [hal.out]; rfl, rfl⟩
      case rest =>
        obtain ⟨hu, hwc⟩ := hcut
        subst hwc
        obtain ⟨b, hb⟩ : ∃ b, b = !(allL la && allL lb) := ⟨_, rfl⟩
        rw [← hb] at hu
        subst hu
        obtain ⟨ev, hev⟩ : ∃ ev, ev = eachE la lb := ⟨_, rfl⟩
        have hevd : Hid (ev = if b = true then 190 else if na = nb then 0 else 2) := hide (by
          rw [hev, hb, ea.out, eb.out]
          exact eachE_is la lb)
        clear hb
        replace hev := hide hev
        go_upto_if 112 with fail
        go_cut [13] from 113 to 117 (fun s13 wx => s13 = .int .i64 ev ∧ wx = wc)
        case first =>
          cases b with
          | true =>
            have hE0 : ev = 190 := by rw [hevd.out]; rfl
            clear hevd hev
            subst hE0
            go_wp2
            go_meet
            case rel => exact ⟨rfl, rfl⟩
          | false =>
            by_cases hab : na = nb
            · have hE0 : ev = 0 := by rw [hevd.out, if_neg (by decide), if_pos hab]
              have hab1 : ((na : Int) == (nb : Int)) = true := by rw [hab]; exact beq_self_eq_true _
              replace hab := hide hab
              clear hevd hev
              subst hE0
              go_wp2
              go_meet
              case rel => exact ⟨rfl, rfl⟩
            · have hE0 : ev = 2 := by rw [hevd.out, if_neg (by decide), if_neg hab]
              have hab1 : ((na : Int) == (nb : Int)) = false := by rw [beq_eq_false_iff_ne]; omega
              replace hab := hide hab
              clear hevd hev
              subst hE0
              go_wp2
              go_meet
              case rel => exact ⟨rfl, rfl⟩
        case rest =>
          obtain ⟨rfl, hwc⟩ := hcut
          subst hwc
          clear hevd
          go_wp2_with fail
          refine (below_any _ _ _ _ _ _ la lb _ ra.out rb.out ea.out eb.out ba bb).mono ?_
          rintro e w8 ⟨rfl, hE⟩
          rw [← hev.out]
          replace ra := hide (ra.out.ext hE)
          replace rb := hide (rb.out.ext hE)
          replace hB := hB.trans (hE.mono hB.size)
          clear hE
          obtain ⟨pb, hpb⟩ : ∃ pb, pb = isBelow la lb := ⟨_, rfl⟩
          rw [← hpb]
          replace hpb := hide hpb
          go_wp2_with fail
          refine (join_any _ _ _ _ _ _ la lb _ ra.out rb.out ea.out eb.out ba bb).mono ?_
          rintro e w9 ⟨vj, rfl, hO, hE⟩
          obtain ⟨Aj, cj, rfl, rj, -, -⟩ := hO.rd
          have bj : (eachL dMax la lb).length ≤ 1000000 := Nat.le_trans (eachL_length _ _ _) (by rw [← ea.out]; exact ba)
          rw [← hev.out]
          replace ra := hide (ra.out.ext hE)
          replace rb := hide (rb.out.ext hE)
          replace hB := hB.trans (hE.mono hB.size)
          clear hE
          clear hO
          obtain ⟨lj, hj⟩ : ∃ l, l = eachL dMax la lb := ⟨_, rfl⟩
          rw [← hj] at rj bj ⊢
          obtain ⟨nj, ej⟩ : ∃ n, n = lj.length := ⟨_, rfl⟩
          rw [← ej] at bj ⊢
          replace ej := hide ej
          replace hj := hide hj
          replace rj := hide rj
          go_wp2_with fail
          refine (meet_any _ _ _ _ _ _ la lb _ ra.out rb.out ea.out eb.out ba bb).mono ?_
          rintro e w10 ⟨vm, rfl, hO, hE⟩
          obtain ⟨Am, cm, rfl, rm, -, -⟩ := hO.rd
          have bm : (eachL dMin la lb).length ≤ 1000000 := Nat.le_trans (eachL_length _ _ _) (by rw [← ea.out]; exact ba)
          rw [← hev.out]
          replace ra := hide (ra.out.ext hE)
          replace rb := hide (rb.out.ext hE)
          replace rj := hide (rj.out.ext hE)
          replace hB := hB.trans (hE.mono hB.size)
          clear hE
          clear hO
          obtain ⟨lm, hm⟩ : ∃ l, l = eachL dMin la lb := ⟨_, rfl⟩
          rw [← hm] at rm bm ⊢
          obtain ⟨nm, em⟩ : ∃ n, n = lm.length := ⟨_, rfl⟩
          rw [← em] at bm ⊢
          replace em := hide em
          replace hm := hide hm
          replace rm := hide rm
          go_wp2_with fail
          refine (few_any A1 n1 c1 xs _ hn1.out hc1.out (h1.out.ext (hw.out.trans (hB.mono hw.out.size)))).mono ?_
          rintro e w11 ⟨v11, rfl, hO, hE⟩
          rw [hla.out] at hO
          obtain ⟨A11, c11, rfl, r11, -, -⟩ := hO.rd
          rw [← ea.out]
          clear hO
          replace ra := hide (ra.out.ext hE)
          replace r11 := hide r11
          replace rj := hide (rj.out.ext hE)
          replace rm := hide (rm.out.ext hE)
          replace rb := hide (rb.out.ext hE)
          replace hB := hB.trans (hE.mono hB.size)
          clear hE
          go_wp2_with fail
          refine (equal_any _ _ _ _ _ _ la la _ ra.out r11.out ea.out ea.out ba ba).mono ?_
          rintro e w12 ⟨rfl, hE⟩
          rw [decide_eq_true rfl]
          replace ra := hide (ra.out.ext hE)
          replace rb := hide (rb.out.ext hE)
          replace rj := hide (rj.out.ext hE)
          replace rm := hide (rm.out.ext hE)
          replace hB := hB.trans (hE.mono hB.size)
          clear hE
          clear r11
          go_wp2_with fail
          refine (few_any A2 n2 c2 ys _ hn2.out hc2.out (h2.out.ext (hw.out.trans (hB.mono hw.out.size)))).mono ?_
          rintro e w11 ⟨v11, rfl, hO, hE⟩
          rw [hlb.out] at hO
          obtain ⟨A11, c11, rfl, r11, -, -⟩ := hO.rd
          rw [← eb.out]
          clear hO
          replace rb := hide (rb.out.ext hE)
          replace r11 := hide r11
          replace rj := hide (rj.out.ext hE)
          replace rm := hide (rm.out.ext hE)
          replace ra := hide (ra.out.ext hE)
          replace hB := hB.trans (hE.mono hB.size)
          clear hE
          go_wp2_with fail
          refine (equal_any _ _ _ _ _ _ lb lb _ rb.out r11.out eb.out eb.out bb bb).mono ?_
          rintro e w12 ⟨rfl, hE⟩
          rw [decide_eq_true rfl]
          replace rb := hide (rb.out.ext hE)
          replace ra := hide (ra.out.ext hE)
          replace rj := hide (rj.out.ext hE)
          replace rm := hide (rm.out.ext hE)
          replace hB := hB.trans (hE.mono hB.size)
          clear hE
          clear r11
          by_cases h0 : ev = 0
          · have hd := hev.out.symm.trans h0
            have hp2 : Hid (leB la lb = pb) := hide (by rw [hpb.out, isBelow_leB hd])
            have hj2 : Hid (decide (lj = two (dOf true) la lb) = true) := hide (decide_eq_true (by rw [hj.out, eachL_two hd]; rfl))
            have hm2 : Hid (decide (lm = two (dOf false) la lb) = true) := hide (decide_eq_true (by rw [hm.out, eachL_two hd]; rfl))
            have hnn : na = nb := by rw [ea.out, eb.out]; exact (eachE_zero.1 hd).2.2
            have bt : ∀ g, (two (dOf g) la lb).length ≤ 1000000 := fun g => by rw [two_length _ _ _ (eachE_zero.1 hd).2.2, ← ea.out]; exact ba
            replace hd := hide hd
            replace hnn := hide hnn
            replace bt := hide bt
            clear hev hpb hj hm
            subst h0
            go_wp2_with fail
            refine (refBelow_any _ _ _ _ _ _ la lb _ ra.out rb.out ea.out eb.out ba hnn.out).mono ?_
            rintro e w13 ⟨rfl, hE⟩
            rw [hp2.out]
            replace ra := hide (ra.out.ext hE)
            replace rb := hide (rb.out.ext hE)
            replace rj := hide (rj.out.ext hE)
            replace rm := hide (rm.out.ext hE)
            replace hB := hB.trans (hE.mono hB.size)
            clear hE
            go_wp2_with fail
            refine (refOf_any true _ _ _ _ _ _ la lb _ ra.out rb.out ea.out eb.out ba hnn.out).mono ?_
            rintro e w14 ⟨v14, rfl, hO, hE⟩
            obtain ⟨A14, c14, rfl, r14, -, -⟩ := hO.rd
            obtain ⟨n14, e14⟩ : ∃ n, n = (two (dOf true) la lb).length := ⟨_, rfl⟩
            have b14 : n14 ≤ 1000000 := by rw [e14]; exact bt.out true
            rw [← e14]
            replace e14 := hide e14
            replace r14 := hide r14
            replace ra := hide (ra.out.ext hE)
            replace rb := hide (rb.out.ext hE)
            replace rj := hide (rj.out.ext hE)
            replace rm := hide (rm.out.ext hE)
            clear hO
            replace hB := hB.trans (hE.mono hB.size)
            clear hE
            go_wp2_with fail
            refine (equal_any _ _ _ _ _ _ lj _ _ rj.out r14.out ej.out e14.out bj b14).mono ?_
            rintro e w15 ⟨rfl, hE⟩
            rw [hj2.out]
            replace ra := hide (ra.out.ext hE)
            replace rb := hide (rb.out.ext hE)
            replace rj := hide (rj.out.ext hE)
            replace rm := hide (rm.out.ext hE)
            replace hB := hB.trans (hE.mono hB.size)
            clear hE
            clear r14
            go_wp2_with fail
            refine (refOf_any false _ _ _ _ _ _ la lb _ ra.out rb.out ea.out eb.out ba hnn.out).mono ?_
            rintro e w14 ⟨v14, rfl, hO, hE⟩
            obtain ⟨A14, c14, rfl, r14, -, -⟩ := hO.rd
            obtain ⟨n14, e14⟩ : ∃ n, n = (two (dOf false) la lb).length := ⟨_, rfl⟩
            have b14 : n14 ≤ 1000000 := by rw [e14]; exact bt.out false
            rw [← e14]
            replace e14 := hide e14
            replace r14 := hide r14
            replace ra := hide (ra.out.ext hE)
            replace rb := hide (rb.out.ext hE)
            replace rj := hide (rj.out.ext hE)
            replace rm := hide (rm.out.ext hE)
            clear hO
            replace hB := hB.trans (hE.mono hB.size)
            clear hE
            go_wp2_with fail
            refine (equal_any _ _ _ _ _ _ lm _ _ rm.out r14.out em.out e14.out bm b14).mono ?_
            rintro e w15 ⟨rfl, hE⟩
            rw [hm2.out]
            replace ra := hide (ra.out.ext hE)
            replace rb := hide (rb.out.ext hE)
            replace rj := hide (rj.out.ext hE)
            replace rm := hide (rm.out.ext hE)
            replace hB := hB.trans (hE.mono hB.size)
            clear hE
            clear r14
            go_wp2
            go_ret
            exact ⟨rfl, hw.out.trans (hB.mono hw.out.size)⟩
          · have hp0 : pb = false := by rw [hpb.out, isBelow_not (by rw [← hev.out]; exact h0)]
            have hz1 : nj = 0 := by rw [ej.out, hj.out, lat0 (by rw [← hev.out]; exact h0)]; rfl
            have hz2 : nm = 0 := by rw [em.out, hm.out, lat0 (by rw [← hev.out]; exact h0)]; rfl
            clear hpb hev hj hm
            subst hp0 hz1 hz2
            have h0' : (ev == 0) = false := beq_eq_false_iff_ne.2 h0
            go_wp2
            go_ret
            exact ⟨rfl, hw.out.trans (hB.mono hw.out.size)⟩
end Go.Proofs.YtbmcbbcgambflaaDoor
