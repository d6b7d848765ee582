/- slices.Compare of numbers; TopoLeast, walked. -/
import Derived.Test.YtepgpiolhiidiaaTopX
import Derived.Test.YtepgpiolhiidiaaGraF
namespace Go.Proofs.Ytepgpiolhiidiaa
open Go.RowKit Go.Shelf
attribute [local go_sem] Oper.semAt_some
theorem drop_cons2 {α : Type} {l : List α} {k : Nat} {x : α} (h : l[k]? = some x) : l.drop k = x :: l.drop (k + 1) := by
  rw [List.drop_eq_getElem_cons (List.getElem?_eq_some_iff.1 h).1, (List.getElem?_eq_some_iff.1 h).2]
set_option maxHeartbeats 1000000 in
theorem compareI_any (A1 A2 : Option Addr) (n1 c1 n2 c2 : Nat) (xs ys : List Int) (w : World) (h1 : Rd intE w.heap.size w A1 xs) (h2 : Rd intE w.heap.size w A2 ys) (hn1 : n1 = xs.length) (hn2 : n2 = ys.length) (hl1 : n1 ≤ 1000000) (hl2 : n2 ≤ 1000000) :
    Calls Try.prog 15 #[.slice A1 n1 c1, .slice A2 n2 c2] w fun e w' => ∃ z : Int, e = .returned (.int .i64 z) ∧ decide (z ≤ 0) = lexLe xs ys ∧ w = w' := by
  replace h1 := hide h1
  replace h2 := hide h2
  replace hn1 := hide hn1
  replace hn2 := hide hn2
  obtain ⟨y, hy⟩ : ∃ y, y = lexLe xs ys := ⟨_, rfl⟩
  rw [← hy]
  replace hy := hide hy
  go_enter Try.func15, Try.ntmps15
  go_wp2
  go_loopw [11] (fun q wr => ∃ k : Nat, k ≤ n1 ∧ k ≤ n2 ∧ q = .int .i64 k ∧ Hid (y = lexLe (xs.drop k) (ys.drop k)) ∧ w = wr) (fun q _ => n1 - (intOf q).toNat)
  case atStart => exact ⟨0, Nat.zero_le _, Nat.zero_le _, rfl, hide hy.out, rfl⟩
  case round =>
    obtain ⟨k, hk, hk2, rfl, hs, rfl⟩ := hrel
    by_cases hlt : k < n1
    · have hlt' : (k : Int) < (n1 : Int) := by omega
      obtain ⟨b1, o1, rfl, ra1⟩ := h1.out.at_ (i := k) (by rw [← hn1.out]; exact hlt)
      obtain ⟨p1, hp1⟩ := get_some (xs := xs) (i := k) (by rw [← hn1.out]; exact hlt)
      have hx1 := ra1.int hp1
      have hb1 := ra1.1
      by_cases hlt2 : k < n2
      · have hlt2' : ¬ (n2 : Int) ≤ (k : Int) := by omega
        have hlt3' : (k : Int) < (n2 : Int) := by omega
        obtain ⟨b2, o2, rfl, ra2⟩ := h2.out.at_ (i := k) (by rw [← hn2.out]; exact hlt2)
        obtain ⟨p2, hp2⟩ := get_some (xs := ys) (i := k) (by rw [← hn2.out]; exact hlt2)
        have hx2 := ra2.int hp2
        have hb2 := ra2.1
        have hs2 : y = (decide (p1 < p2) || (decide (p1 = p2) && lexLe (xs.drop (k + 1)) (ys.drop (k + 1)))) := by
          rw [hs.out, drop_cons2 hp1, drop_cons2 hp2]
          rfl
        replace hp1 := hide hp1
        replace hp2 := hide hp2
        replace ra1 := hide ra1
        replace ra2 := hide ra2
        clear hs
        go_wp2_with fail
        refine (compare_int p1 p2 _).mono ?_
        rintro e w1 ⟨rfl, hw⟩
        subst hw
        by_cases hpl : p1 < p2
        · rw [show cmpI p1 p2 = -1 by unfold cmpI; rw [if_pos hpl]]
          have hy2 : Hid (decide ((-1 : Int) ≤ 0) = y) := hide (by rw [hs2, decide_eq_true hpl]; rfl)
          clear hs2
          replace hpl := hide hpl
          go_wp2
          go_ret
          exact ⟨_, rfl, hy2.out, rfl⟩
        · by_cases hpe : p2 < p1
          · rw [show cmpI p1 p2 = 1 by unfold cmpI; rw [if_neg hpl, if_pos hpe]]
            have hy2 : Hid (decide ((1 : Int) ≤ 0) = y) := hide (by rw [hs2, decide_eq_false hpl, decide_eq_false (show ¬ p1 = p2 by omega)]; rfl)
            clear hs2
            replace hpl := hide hpl
            replace hpe := hide hpe
            go_wp2
            go_ret
            exact ⟨_, rfl, hy2.out, rfl⟩
          · rw [show cmpI p1 p2 = 0 by unfold cmpI; rw [if_neg hpl, if_neg hpe]]
            have hy2 : Hid (y = lexLe (xs.drop (k + 1)) (ys.drop (k + 1))) := hide (by rw [hs2, decide_eq_false hpl, decide_eq_true (show p1 = p2 by omega), Bool.false_or, Bool.true_and])
            clear hs2
            replace hpl := hide hpl
            replace hpe := hide hpe
            go_wp2
            refine ⟨?_, ?_⟩
            · first
                | exact ⟨k + 1, by omega, by omega, by first | omega | go_num, hy2, trivial⟩
                | ((repeat apply Exists.intro); exact ⟨⟨k + 1, by omega, by omega, by first | omega | go_num, hy2, trivial⟩, rfl⟩)
            · first | (simp [intOf, lenV]; omega) | (simp [intOf]; omega) | (simp [intOf]; done)
      · have hlt2' : (n2 : Int) ≤ (k : Int) := by omega
        have hy2 : Hid (decide ((1 : Int) ≤ 0) = y) := hide (by
          rw [hs.out, drop_cons2 hp1, show ys.drop k = [] from List.drop_eq_nil_of_le (by rw [← hn2.out]; omega)]
          rfl)
        replace hp1 := hide hp1
        replace ra1 := hide ra1
        clear hs
        go_wp2
        go_ret
        exact ⟨_, rfl, hy2.out, rfl⟩
    · have hlt' : ¬ (k : Int) < (n1 : Int) := by omega
      have hy0 : Hid (y = true) := hide (by
        rw [hs.out, show xs.drop k = [] from List.drop_eq_nil_of_le (by rw [← hn1.out]; omega)]
        unfold lexLe
        rfl)
      clear hs
      by_cases hnn : n1 < n2
      · have hnn' : (n1 : Int) < (n2 : Int) := by omega
        go_wp2
        go_ret
        exact ⟨_, rfl, by rw [hy0.out]; rfl, rfl⟩
      · have hnn' : ¬ (n1 : Int) < (n2 : Int) := by omega
        go_wp2
        go_ret
        exact ⟨_, rfl, by rw [hy0.out]; rfl, rfl⟩
theorem topR_iff {nn : Nat} {a : List (Int × Int × Int)} {l : List Int} (hr : rightG nn a = true) : topR nn a l = true ↔ RightO nn a l := by
  unfold topR
  rw [hr, Bool.true_and, Int.toNat_natCast, refR_iff (joins_of hr)]

set_option maxRecDepth 100000 in
set_option maxHeartbeats 8000000 in
theorem topoLeast_any (n : Int) (A : Option Addr) (m c : Nat) (xs : List (Int × Int × Int)) (A2 : Option Addr) (n2 c2 : Nat) (l : List Int) (w : World) (hm : m = xs.length) (hmc : m ≤ c) (h : Rd edgeE w.heap.size w A xs) (hn2 : n2 = l.length) (hc2 : n2 ≤ c2) (h2 : Rd intE w.heap.size w A2 l) :
    Calls Try.prog 4 #[.agg #[.int .i64 n, .slice A m c], .slice A2 n2 c2] w fun e w' => e = .returned (.bool true) ∧ Ext w w' := by
  replace h := hide h
  replace hm := hide hm
  replace h2 := hide h2
  replace hn2 := hide hn2
  go_enter Try.func4, Try.ntmps4
  go_upto_region 1 with fail
  obtain ⟨w0, hw0⟩ : ∃ w0, w0 = w.alloc (.cells #[.int .i64 n, .slice A m c] 24) := ⟨_, rfl⟩
  rw [← hw0]
  have T : Ext w w0 := by rw [hw0]; exact (Below.refl _ _).alloc (Nat.le_refl _) _
  have X1 : Hid (BoxG w0 w.heap.size n A m c) := hide (by rw [hw0]; exact BoxN.new w _ _)
  clear hw0
  obtain ⟨pg, hpg⟩ : ∃ b, b = w.heap.size := ⟨_, rfl⟩
  rw [← hpg] at X1 ⊢
  clear hpg
  go_wp2_with fail
  refine (wakes_any _).mono ?_
  rintro e w1 ⟨rfl, hE⟩
  replace T := T.trans (hE.mono T.size)
  replace X1 := hide (X1.out.ext hE)
  clear hE
  have k10 := X1.out.cell 0 (v := .int .i64 n) rfl
  have k11 := X1.out.cell 1 (v := .slice A m c) rfl
  have s1 := X1.out.lt
  have hla : (xs.take 60).length ≤ 60 := by rw [List.length_take]; omega
  obtain ⟨a, ha⟩ : ∃ a, a = xs.take 60 := ⟨_, rfl⟩
  rw [← ha] at hla
  replace ha := hide ha
  go_wp2_with fail
  refine (fair_any n A m c xs _ (h.out.ext T) hm.out hmc).mono ?_
  rintro e w2 ⟨v, rfl, hO, hE⟩
  rw [← ha.out] at hO
  replace T := T.trans (hE.mono T.size)
  clear hE k10 k11 s1 X1
  obtain ⟨A3, c3, rfl, r3, hcc3, -⟩ := hO.rd
  obtain ⟨n3, e3⟩ : ∃ q, q = List.length a := ⟨_, rfl⟩
  rw [← e3] at hcc3 ⊢
  replace r3 := hide r3
  replace e3 := hide e3
  clear hO
  have hl3 : n3 ≤ 60 := by have := e3.out; omega
  have hl3b : n3 ≤ 1000000 := by omega
  go_upto_region 4 with fail
  obtain ⟨w4, hw⟩ : ∃ q, q = World.alloc w2 (.cells #[.int .i64 n, .slice A3 n3 c3] 24) := ⟨_, rfl⟩
  rw [← hw]
  have hE : Ext w2 w4 := by rw [hw]; exact (Below.refl _ _).alloc (Nat.le_refl _) _
  have X3 : Hid (BoxG w4 (World.heap w2).size n A3 n3 c3) := hide (by rw [hw]; exact BoxN.new _ _ _)
  clear hw
  obtain ⟨p3, hp⟩ : ∃ q, q = (World.heap w2).size := ⟨_, rfl⟩
  rw [← hp] at X3 ⊢
  clear hp
  replace r3 := hide (r3.out.ext hE)
  have hB := hide (T.trans (hE.mono T.size))
  clear hE T
  have T : Ext w4 w4 := Below.refl _ _
  have k30 := (X3.out.ext T).cell 0 (v := .int .i64 n) rfl
  have k31 := (X3.out.ext T).cell 1 (v := .slice A3 n3 c3) rfl
  have s3 := (X3.out.ext T).lt
  obtain ⟨y2, hy2⟩ : ∃ q, q = ordB n a := ⟨_, rfl⟩
  go_wp2_with fail
  refine (order_any n A3 n3 c3 a _ (r3.out.ext T) e3.out hcc3 hl3b).mono ?_
  rintro e w5 ⟨v, rfl, hO, hE⟩
  rw [← hy2]
  replace T := T.trans (hE.mono T.size)
  obtain ⟨A6, c6, rfl, r6, -, -⟩ := hO.rd
  obtain ⟨l6, hl6⟩ : ∃ q, q = (ordL n a).length := ⟨_, rfl⟩
  rw [← hl6] at hO ⊢
  replace r6 := hide r6
  clear hO hE k30 k31 s3
  have k30 := (X3.out.ext T).cell 0 (v := .int .i64 n) rfl
  have k31 := (X3.out.ext T).cell 1 (v := .slice A3 n3 c3) rfl
  have s3 := (X3.out.ext T).lt
  have TW := hB.out.trans (T.mono hB.out.size)
  cases hr : rightG n a with
  | false =>
    rw [chkG_no hr]
    have v1 : Hid (topR n a l = false) := hide (by unfold topR; rw [hr]; rfl)
    replace hr := hide hr
    replace hy2 := hide hy2
    replace hl6 := hide hl6
    go_wp2_with fail
    refine (right_any n A3 n3 c3 a A2 n2 c2 l _ (r3.out.ext T) e3.out hl3b (h2.out.ext TW) hn2.out).mono ?_
    rintro e w6 ⟨rfl, hE⟩
    rw [v1.out]
    have hfin := hide (TW.trans (hE.mono TW.size))
    clear T TW k30 k31 s3 hE
    go_wp2
    go_ret
    exact ⟨rfl, hfin.out⟩
  | true =>
    rw [chkG_yes hr]
    obtain ⟨nn, rfl⟩ : ∃ nn : Nat, n = nn := ⟨n.toNat, by have := ((rightG_iff n a).1 hr).1; omega⟩
    have hnn : nn ≤ 300 := by have := ((rightG_iff _ a).1 hr).2.1; omega
    obtain ⟨ys, hys⟩ : ∃ ys, ys = l.take 310 := ⟨_, rfl⟩
    obtain ⟨k5, hk5⟩ : ∃ q, q = ys.length := ⟨_, rfl⟩
    have hk5b : k5 ≤ 310 ∧ k5 ≤ n2 ∧ k5 ≤ c2 := by
      have := hn2.out
      rw [hk5, hys, List.length_take]
      omega
    have hmin : min (n2 : Int) 310 = (k5 : Int) := by
      have := hn2.out
      rw [hk5, hys, List.length_take]
      omega
    obtain ⟨q1, q2, q3⟩ := hk5b
    have q4 : (k5 : Int) ≤ (c2 : Int) := by omega
    have hr6 : Hid (Rd intE w.heap.size w A2 ys) := hide (by rw [hys]; exact h2.out.take 310)
    have hR : ∀ l, topR nn a l = true ↔ RightO nn a l := fun l => topR_iff hr
    have hj := joins_of hr
    have hb : y2 = decide ((ordN nn a).length = nn) := by rw [hy2]; unfold ordB; rw [hr, Int.toNat_natCast, Bool.true_and]
    have hLo : ordL (nn : Int) a = if (ordN nn a).length = nn then ordN nn a else [] := by
      unfold ordL
      rw [Int.toNat_natCast]
      simp only [hr, true_and]
    replace hk5 := hide hk5
    replace hys := hide hys
    replace hR := hide hR
    replace hj := hide hj
    replace hr := hide hr
    replace hy2 := hide hy2
    replace hb := hide hb
    replace hLo := hide hLo
    replace hl6 := hide hl6
    go_wp2_with fail
    refine (cloneI_any A2 k5 c2 ys _ (hr6.out.ext TW) hk5.out (by omega)).mono ?_
    rintro e w6 ⟨v, rfl, hO, hE⟩
    replace T := T.trans (hE.mono T.size)
    replace r6 := hide (r6.out.ext hE)
    obtain ⟨A7, c7, rfl, r7, -, -⟩ := hO.rd
    rw [← hk5.out] at hO ⊢
    replace r7 := hide r7
    clear hO hE TW k30 k31 s3
    have k30 := (X3.out.ext T).cell 0 (v := .int .i64 nn) rfl
    have k31 := (X3.out.ext T).cell 1 (v := .slice A3 n3 c3) rfl
    have s3 := (X3.out.ext T).lt
    cases y2 with
    | false =>
      have hnl : ¬ (ordN nn a).length = nn := by have := hb.out; simpa using this.symm
      have v1 : Hid (topR nn a ys = false) := hide (by
        rw [Bool.eq_false_iff]
        intro hc
        exact hnl (right_all ((hR.out ys).1 hc)))
      have v2 : l6 = 0 := by rw [hl6.out, hLo.out, if_neg hnl]; rfl
      subst v2
      replace hnl := hide hnl
      go_wp2_with fail
      refine (right_any nn A3 n3 c3 a A7 k5 c7 ys _ (r3.out.ext T) e3.out hl3b r7.out hk5.out).mono ?_
      rintro e w7 ⟨rfl, hE⟩
      rw [v1.out]
      have hfin := hide (hB.out.trans ((T.trans (hE.mono T.size)).mono hB.out.size))
      clear T k30 k31 s3 hE
      go_wp2
      go_ret
      exact ⟨rfl, hfin.out⟩
    | true =>
      have hnl : (ordN nn a).length = nn := by have := hb.out; simpa using this.symm
      have v2 : l6 = nn := by rw [hl6.out, hLo.out, if_pos hnl, hnl]
      subst v2
      have r6b := r6.out
      rw [hLo.out, if_pos hnl] at r6b
      replace r6b := hide r6b
      have v1 : Hid (topR l6 a (ordN l6 a) = true) := hide ((hR.out _).2 (ord_right (fun e he => (hj.out e he).1) hnl))
      have v3 : Hid (topR l6 a ys = true → lexLe (ordN l6 a) ys = true) := hide (fun hc => ord_least ((hR.out ys).1 hc))
      replace hnl := hide hnl
      obtain ⟨y3, hy3⟩ : ∃ q, q = topR l6 a ys := ⟨_, rfl⟩
      go_wp2_with fail
      refine (right_any l6 A3 n3 c3 a A6 l6 c6 (ordN l6 a) _ (r3.out.ext T) e3.out hl3b r6b.out hnl.out.symm).mono ?_
      rintro e w7 ⟨rfl, hE⟩
      rw [v1.out]
      replace T := T.trans (hE.mono T.size)
      replace r6b := hide (r6b.out.ext hE)
      replace r7 := hide (r7.out.ext hE)
      clear k30 k31 s3 hE
      have k30 := (X3.out.ext T).cell 0 (v := .int .i64 l6) rfl
      have k31 := (X3.out.ext T).cell 1 (v := .slice A3 n3 c3) rfl
      have s3 := (X3.out.ext T).lt
      replace hy3 := hide hy3
      go_wp2_with fail
      refine (right_any l6 A3 n3 c3 a A7 k5 c7 ys _ (r3.out.ext T) e3.out hl3b r7.out hk5.out).mono ?_
      rintro e w8 ⟨rfl, hE⟩
      rw [← hy3.out]
      replace T := T.trans (hE.mono T.size)
      replace r6b := hide (r6b.out.ext hE)
      replace r7 := hide (r7.out.ext hE)
      have hfin := hide (hB.out.trans (T.mono hB.out.size))
      clear k30 k31 s3 hE T
      cases y3 with
      | false =>
        go_wp2
        go_ret
        exact ⟨rfl, hfin.out⟩
      | true =>
        have v4 := hide (v3.out hy3.out.symm)
        go_wp2_with fail
        refine (compareI_any A6 A7 l6 c6 k5 c7 (ordN l6 a) ys _ r6b.out r7.out hnl.out.symm hk5.out (by omega) (by omega)).mono ?_
        rintro e w9 ⟨z, rfl, hz, hw⟩
        subst hw
        rw [v4.out] at hz
        have hz2 : z ≤ 0 := by simpa using hz
        clear hz
        go_wp2
        go_ret
        exact ⟨rfl, hfin.out⟩
end Go.Proofs.Ytepgpiolhiidiaa
