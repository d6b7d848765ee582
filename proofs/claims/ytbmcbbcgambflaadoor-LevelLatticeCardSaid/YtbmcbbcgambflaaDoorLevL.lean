/- LevelLattice: joins and meets. -/
import Derived.Test.YtbmcbbcgambflaaDoorLevP
namespace Go.Proofs.YtbmcbbcgambflaaDoor
open Go.RowKit

theorem enter_lat (args : Array Value) (w : World) : (callFunc 22 args).run Tryd.prog w = .ok (.enter 22 args) w := enters_of Tryd.func22 (by kernel_rfl) rfl args w
set_option maxRecDepth 100000 in
set_option maxHeartbeats 8000000 in
theorem levelLattice_any (A1 A2 A3 : Option Addr) (n1 c1 n2 c2 n3 c3 : Nat) (xs ys zs : List Int) (w : World) (hn1 : n1 = xs.length) (hc1 : n1 ≤ c1) (h1 : Rd intE w.heap.size w A1 xs) (hn2 : n2 = ys.length) (hc2 : n2 ≤ c2) (h2 : Rd intE w.heap.size w A2 ys)
    (hn3 : n3 = zs.length) (hc3 : n3 ≤ c3) (h3 : Rd intE w.heap.size w A3 zs) (hL : LaidAt w) :
    Calls Tryd.prog 5 #[.slice A1 n1 c1, .slice A2 n2 c2, .slice A3 n3 c3] w fun e w' => e = .returned (.bool true) ∧ Ext w w' := by
  replace hn1 := hide hn1
  replace hn2 := hide hn2
  replace hn3 := hide hn3
  replace h1 := hide h1
  replace h2 := hide h2
  replace h3 := hide h3
  replace hc1 := hide hc1
  replace hc2 := hide hc2
  replace hc3 := hide hc3
  replace hL := hide hL
  have henter := enter_lat
  go_enter Tryd.func5, Tryd.ntmps5
  go_wp2_with fail
  refine (wakes_any _ hL.out).mono ?_
  rintro e w1 ⟨rfl, hE⟩
  clear hL
  go_wp2_with fail
  refine (few_any A1 n1 c1 xs _ hn1.out hc1.out (h1.out.ext hE)).mono ?_
  rintro e w2 ⟨va, rfl, hO, hE2⟩
  obtain ⟨Aa, ca, rfl, ra, -, -⟩ := hO.rd
  have ba : (xs.take 40).length ≤ 1000000 := by rw [List.length_take]; omega
  generalize xs.take 40 = la at *
  replace hE := hE.trans (hE2.mono hE.size)
  clear hO hE2 h1 hn1 hc1
  obtain ⟨na, ea⟩ : ∃ n, n = la.length := ⟨_, rfl⟩
  rw [← ea] at ba ⊢
  replace ea := hide ea
  replace ra := hide ra
  go_wp2_with fail
  refine (few_any A2 n2 c2 ys _ hn2.out hc2.out (h2.out.ext hE)).mono ?_
  rintro e w3 ⟨vb, rfl, hO, hE2⟩
  obtain ⟨Ab, cb, rfl, rb, -, -⟩ := hO.rd
  have bb : (ys.take 40).length ≤ 1000000 := by rw [List.length_take]; omega
  generalize ys.take 40 = lb at *
  replace hE := hE.trans (hE2.mono hE.size)
  replace ra := hide (ra.out.ext hE2)
  clear hO hE2 h2 hn2 hc2
  obtain ⟨nb, eb⟩ : ∃ n, n = lb.length := ⟨_, rfl⟩
  rw [← eb] at bb ⊢
  replace eb := hide eb
  replace rb := hide rb
  go_wp2_with fail
  refine (few_any A3 n3 c3 zs _ hn3.out hc3.out (h3.out.ext hE)).mono ?_
  rintro e w4 ⟨vc, rfl, hO, hE2⟩
  obtain ⟨Ac, cc, rfl, rc, -, -⟩ := hO.rd
  have bc : (zs.take 40).length ≤ 1000000 := by rw [List.length_take]; omega
  generalize zs.take 40 = lc at *
  replace hE := hE.trans (hE2.mono hE.size)
  replace ra := hide (ra.out.ext hE2)
  replace rb := hide (rb.out.ext hE2)
  clear hO hE2 h3 hn3 hc3
  obtain ⟨nc, ec⟩ : ∃ n, n = lc.length := ⟨_, rfl⟩
  rw [← ec] at bc ⊢
  replace ec := hide ec
  replace rc := hide rc
  go_wp2_with fail
  refine (join_any _ _ _ _ _ _ la lb _ ra.out rb.out ea.out eb.out ba bb).mono ?_
  rintro e w5 ⟨vj, rfl, hO, hE2⟩
  obtain ⟨Aj, cj, rfl, rj, -, -⟩ := hO.rd
  have bj : (eachL dMax la lb).length ≤ 1000000 := Nat.le_trans (eachL_length _ _ _) (by rw [← ea.out]; exact ba)
  replace hE := hE.trans (hE2.mono hE.size)
  replace ra := hide (ra.out.ext hE2)
  replace rb := hide (rb.out.ext hE2)
  replace rc := hide (rc.out.ext hE2)
  clear hO hE2
  obtain ⟨lj, hj⟩ : ∃ l, l = eachL dMax la lb := ⟨_, rfl⟩
  rw [← hj] at rj bj ⊢
  obtain ⟨nj, ej⟩ : ∃ n, n = lj.length := ⟨_, rfl⟩
  rw [← ej] at bj ⊢
  obtain ⟨ev, hev⟩ : ∃ ev, ev = eachE la lb := ⟨_, rfl⟩
  rw [← hev]
  replace ej := hide ej
  replace hj := hide hj
  replace rj := hide rj
  replace hev := hide hev
  go_wp2_with fail
  refine (meet_any _ _ _ _ _ _ la lb _ ra.out rb.out ea.out eb.out ba bb).mono ?_
  rintro e w6 ⟨vm, rfl, hO, hE2⟩
  obtain ⟨Am, cm, rfl, rm, -, -⟩ := hO.rd
  have bm : (eachL dMin la lb).length ≤ 1000000 := Nat.le_trans (eachL_length _ _ _) (by rw [← ea.out]; exact ba)
  have hB0 := hide (hE.trans (hE2.mono hE.size))
  replace ra := hide (ra.out.ext hE2)
  replace rb := hide (rb.out.ext hE2)
  replace rc := hide (rc.out.ext hE2)
  replace rj := hide (rj.out.ext hE2)
  clear hO hE2 hE
  obtain ⟨lm, hm⟩ : ∃ l, l = eachL dMin la lb := ⟨_, rfl⟩
  rw [← hm] at rm bm ⊢
  obtain ⟨nm, em⟩ : ∃ n, n = lm.length := ⟨_, rfl⟩
  rw [← em] at bm ⊢
  rw [← hev.out]
  replace em := hide em
  replace hm := hide hm
  replace rm := hide rm
  by_cases h0 : ev = 0
  · subst h0
    have h := hev.out.symm
    have k1 : Hid (isBelow la lj = true) := hide (by rw [hj.out]; exact lat1 h)
    have k2 : Hid (isBelow lb lj = true) := hide (by rw [hj.out]; exact lat2 h)
    have k3 : Hid (isBelow lm la = true) := hide (by rw [hm.out]; exact lat3 h)
    have k4 : Hid (isBelow lm lb = true) := hide (by rw [hm.out]; exact lat4 h)
    obtain ⟨s, hs⟩ : ∃ s, s = isBelow la lb := ⟨_, rfl⟩
    have k0 : Hid (isBelow la lb = s) := hide hs.symm
    have k5 : Hid (decide (lj = lb) = s) := hide (by rw [hj.out, hs]; exact lat5 h)
    have k6 : Hid (decide (lm = la) = s) := hide (by rw [hm.out, hs]; exact lat6 h)
    have k7 : Hid (isBelow la lc = true → isBelow lb lc = true → isBelow lj lc = true) := hide (by rw [hj.out]; exact lat7 h)
    have k8 : Hid (isBelow lc la = true → isBelow lc lb = true → isBelow lc lm = true) := hide (by rw [hm.out]; exact lat8 h)
    clear h hev hj hm hs
    have hB : Ext w6 w6 := Below.refl _ _
    go_wp2_with fail
    refine (fn_below_any _ _ _ _ _ _ la lb _ (ra.out.ext hB) (rb.out.ext hB) ea.out eb.out ba bb).mono ?_
    rintro e w' ⟨rfl, hE⟩
    rw [k0.out]
    replace hB := hB.trans (hE.mono hB.size)
    clear hE
    go_wp2_with fail
    refine (fn_below_any _ _ _ _ _ _ la lj _ (ra.out.ext hB) (rj.out.ext hB) ea.out ej.out ba bj).mono ?_
    rintro e w' ⟨rfl, hE⟩
    rw [k1.out]
    replace hB := hB.trans (hE.mono hB.size)
    clear hE
    go_wp2_with fail
    refine (fn_below_any _ _ _ _ _ _ lb lj _ (rb.out.ext hB) (rj.out.ext hB) eb.out ej.out bb bj).mono ?_
    rintro e w' ⟨rfl, hE⟩
    rw [k2.out]
    replace hB := hB.trans (hE.mono hB.size)
    clear hE
    go_wp2_with fail
    refine (fn_below_any _ _ _ _ _ _ lm la _ (rm.out.ext hB) (ra.out.ext hB) em.out ea.out bm ba).mono ?_
    rintro e w' ⟨rfl, hE⟩
    rw [k3.out]
    replace hB := hB.trans (hE.mono hB.size)
    clear hE
    go_wp2_with fail
    refine (fn_below_any _ _ _ _ _ _ lm lb _ (rm.out.ext hB) (rb.out.ext hB) em.out eb.out bm bb).mono ?_
    rintro e w' ⟨rfl, hE⟩
    rw [k4.out]
    replace hB := hB.trans (hE.mono hB.size)
    clear hE
    go_wp2_with fail
    refine (equal_any _ _ _ _ _ _ lj lb _ (rj.out.ext hB) (rb.out.ext hB) ej.out eb.out bj bb).mono ?_
    rintro e w' ⟨rfl, hE⟩
    rw [k5.out]
    replace hB := hB.trans (hE.mono hB.size)
    clear hE
    go_wp2_with fail
    refine (equal_any _ _ _ _ _ _ lm la _ (rm.out.ext hB) (ra.out.ext hB) em.out ea.out bm ba).mono ?_
    rintro e w' ⟨rfl, hE⟩
    rw [k6.out]
    replace hB := hB.trans (hE.mono hB.size)
    clear hE
    clear k0 k1 k2 k3 k4 k5 k6
    cases hp1 : isBelow la lc with
    | false =>
      replace hp1 := hide hp1
      go_wp2_with fail
      refine (fn_below_any _ _ _ _ _ _ la lc _ (ra.out.ext hB) (rc.out.ext hB) ea.out ec.out ba bc).mono ?_
      rintro e w' ⟨rfl, hE⟩
      rw [hp1.out]
      replace hB := hB.trans (hE.mono hB.size)
      clear hE
      cases hq1 : isBelow lc la with
      | false =>
        replace hq1 := hide hq1
        go_wp2_with fail
        refine (fn_below_any _ _ _ _ _ _ lc la _ (rc.out.ext hB) (ra.out.ext hB) ec.out ea.out bc ba).mono ?_
        rintro e w' ⟨rfl, hE⟩
        rw [hq1.out]
        replace hB := hB.trans (hE.mono hB.size)
        clear hE
        cases hs : isBelow la lb with
        | false =>
          replace hs := hide hs
          go_wp2_with fail
          refine (fn_below_any _ _ _ _ _ _ la lb _ (ra.out.ext hB) (rb.out.ext hB) ea.out eb.out ba bb).mono ?_
          rintro e w' ⟨rfl, hE⟩
          rw [hs.out]
          replace hB := hB.trans (hE.mono hB.size)
          clear hE
          go_wp2
          go_ret
          exact ⟨rfl, hB0.out.trans (hB.mono hB0.out.size)⟩
        | true =>
          cases ht : isBelow lb la with
          | false =>
            replace hs := hide hs
            replace ht := hide ht
            go_wp2_with fail
            refine (fn_below_any _ _ _ _ _ _ la lb _ (ra.out.ext hB) (rb.out.ext hB) ea.out eb.out ba bb).mono ?_
            rintro e w' ⟨rfl, hE⟩
            rw [hs.out]
            replace hB := hB.trans (hE.mono hB.size)
            clear hE
            go_wp2_with fail
            refine (fn_below_any _ _ _ _ _ _ lb la _ (rb.out.ext hB) (ra.out.ext hB) eb.out ea.out bb ba).mono ?_
            rintro e w' ⟨rfl, hE⟩
            rw [ht.out]
            replace hB := hB.trans (hE.mono hB.size)
            clear hE
            go_wp2
            go_ret
            exact ⟨rfl, hB0.out.trans (hB.mono hB0.out.size)⟩
          | true =>
            have hq : decide (la = lb) = true := decide_eq_true (lat9 hs ht)
            replace hs := hide hs
            replace ht := hide ht
            replace hq := hide hq
            go_wp2_with fail
            refine (fn_below_any _ _ _ _ _ _ la lb _ (ra.out.ext hB) (rb.out.ext hB) ea.out eb.out ba bb).mono ?_
            rintro e w' ⟨rfl, hE⟩
            rw [hs.out]
            replace hB := hB.trans (hE.mono hB.size)
            clear hE
            go_wp2_with fail
            refine (fn_below_any _ _ _ _ _ _ lb la _ (rb.out.ext hB) (ra.out.ext hB) eb.out ea.out bb ba).mono ?_
            rintro e w' ⟨rfl, hE⟩
            rw [ht.out]
            replace hB := hB.trans (hE.mono hB.size)
            clear hE
            go_wp2_with fail
            refine (equal_any _ _ _ _ _ _ la lb _ (ra.out.ext hB) (rb.out.ext hB) ea.out eb.out ba bb).mono ?_
            rintro e w' ⟨rfl, hE⟩
            rw [hq.out]
            replace hB := hB.trans (hE.mono hB.size)
            clear hE
            go_wp2
            go_ret
            exact ⟨rfl, hB0.out.trans (hB.mono hB0.out.size)⟩
      | true =>
        cases hq2 : isBelow lc lb with
        | false =>
          replace hq1 := hide hq1
          replace hq2 := hide hq2
          go_wp2_with fail
          refine (fn_below_any _ _ _ _ _ _ lc la _ (rc.out.ext hB) (ra.out.ext hB) ec.out ea.out bc ba).mono ?_
          rintro e w' ⟨rfl, hE⟩
          rw [hq1.out]
          replace hB := hB.trans (hE.mono hB.size)
          clear hE
          go_wp2_with fail
          refine (fn_below_any _ _ _ _ _ _ lc lb _ (rc.out.ext hB) (rb.out.ext hB) ec.out eb.out bc bb).mono ?_
          rintro e w' ⟨rfl, hE⟩
          rw [hq2.out]
          replace hB := hB.trans (hE.mono hB.size)
          clear hE
          cases hs : isBelow la lb with
          | false =>
            replace hs := hide hs
            go_wp2_with fail
            refine (fn_below_any _ _ _ _ _ _ la lb _ (ra.out.ext hB) (rb.out.ext hB) ea.out eb.out ba bb).mono ?_
            rintro e w' ⟨rfl, hE⟩
            rw [hs.out]
            replace hB := hB.trans (hE.mono hB.size)
            clear hE
            go_wp2
            go_ret
            exact ⟨rfl, hB0.out.trans (hB.mono hB0.out.size)⟩
          | true =>
            cases ht : isBelow lb la with
            | false =>
              replace hs := hide hs
              replace ht := hide ht
              go_wp2_with fail
              refine (fn_below_any _ _ _ _ _ _ la lb _ (ra.out.ext hB) (rb.out.ext hB) ea.out eb.out ba bb).mono ?_
              rintro e w' ⟨rfl, hE⟩
              rw [hs.out]
              replace hB := hB.trans (hE.mono hB.size)
              clear hE
              go_wp2_with fail
              refine (fn_below_any _ _ _ _ _ _ lb la _ (rb.out.ext hB) (ra.out.ext hB) eb.out ea.out bb ba).mono ?_
              rintro e w' ⟨rfl, hE⟩
              rw [ht.out]
              replace hB := hB.trans (hE.mono hB.size)
              clear hE
              go_wp2
              go_ret
              exact ⟨rfl, hB0.out.trans (hB.mono hB0.out.size)⟩
            | true =>
              have hq : decide (la = lb) = true := decide_eq_true (lat9 hs ht)
              replace hs := hide hs
              replace ht := hide ht
              replace hq := hide hq
              go_wp2_with fail
              refine (fn_below_any _ _ _ _ _ _ la lb _ (ra.out.ext hB) (rb.out.ext hB) ea.out eb.out ba bb).mono ?_
              rintro e w' ⟨rfl, hE⟩
              rw [hs.out]
              replace hB := hB.trans (hE.mono hB.size)
              clear hE
              go_wp2_with fail
              refine (fn_below_any _ _ _ _ _ _ lb la _ (rb.out.ext hB) (ra.out.ext hB) eb.out ea.out bb ba).mono ?_
              rintro e w' ⟨rfl, hE⟩
              rw [ht.out]
              replace hB := hB.trans (hE.mono hB.size)
              clear hE
              go_wp2_with fail
              refine (equal_any _ _ _ _ _ _ la lb _ (ra.out.ext hB) (rb.out.ext hB) ea.out eb.out ba bb).mono ?_
              rintro e w' ⟨rfl, hE⟩
              rw [hq.out]
              replace hB := hB.trans (hE.mono hB.size)
              clear hE
              go_wp2
              go_ret
              exact ⟨rfl, hB0.out.trans (hB.mono hB0.out.size)⟩
        | true =>
          have hq3 := k8.out hq1 hq2
          replace hq1 := hide hq1
          replace hq2 := hide hq2
          replace hq3 := hide hq3
          go_wp2_with fail
          refine (fn_below_any _ _ _ _ _ _ lc la _ (rc.out.ext hB) (ra.out.ext hB) ec.out ea.out bc ba).mono ?_
          rintro e w' ⟨rfl, hE⟩
          rw [hq1.out]
          replace hB := hB.trans (hE.mono hB.size)
          clear hE
          go_wp2_with fail
          refine (fn_below_any _ _ _ _ _ _ lc lb _ (rc.out.ext hB) (rb.out.ext hB) ec.out eb.out bc bb).mono ?_
          rintro e w' ⟨rfl, hE⟩
          rw [hq2.out]
          replace hB := hB.trans (hE.mono hB.size)
          clear hE
          go_wp2_with fail
          refine (fn_below_any _ _ _ _ _ _ lc lm _ (rc.out.ext hB) (rm.out.ext hB) ec.out em.out bc bm).mono ?_
          rintro e w' ⟨rfl, hE⟩
          rw [hq3.out]
          replace hB := hB.trans (hE.mono hB.size)
          clear hE
          cases hs : isBelow la lb with
          | false =>
            replace hs := hide hs
            go_wp2_with fail
            refine (fn_below_any _ _ _ _ _ _ la lb _ (ra.out.ext hB) (rb.out.ext hB) ea.out eb.out ba bb).mono ?_
            rintro e w' ⟨rfl, hE⟩
            rw [hs.out]
            replace hB := hB.trans (hE.mono hB.size)
            clear hE
            go_wp2
            go_ret
            exact ⟨rfl, hB0.out.trans (hB.mono hB0.out.size)⟩
          | true =>
            cases ht : isBelow lb la with
            | false =>
              replace hs := hide hs
              replace ht := hide ht
              go_wp2_with fail
              refine (fn_below_any _ _ _ _ _ _ la lb _ (ra.out.ext hB) (rb.out.ext hB) ea.out eb.out ba bb).mono ?_
              rintro e w' ⟨rfl, hE⟩
              rw [hs.out]
              replace hB := hB.trans (hE.mono hB.size)
              clear hE
              go_wp2_with fail
              refine (fn_below_any _ _ _ _ _ _ lb la _ (rb.out.ext hB) (ra.out.ext hB) eb.out ea.out bb ba).mono ?_
              rintro e w' ⟨rfl, hE⟩
              rw [ht.out]
              replace hB := hB.trans (hE.mono hB.size)
              clear hE
              go_wp2
              go_ret
              exact ⟨rfl, hB0.out.trans (hB.mono hB0.out.size)⟩
            | true =>
              have hq : decide (la = lb) = true := decide_eq_true (lat9 hs ht)
              replace hs := hide hs
              replace ht := hide ht
              replace hq := hide hq
              go_wp2_with fail
              refine (fn_below_any _ _ _ _ _ _ la lb _ (ra.out.ext hB) (rb.out.ext hB) ea.out eb.out ba bb).mono ?_
              rintro e w' ⟨rfl, hE⟩
              rw [hs.out]
              replace hB := hB.trans (hE.mono hB.size)
              clear hE
              go_wp2_with fail
              refine (fn_below_any _ _ _ _ _ _ lb la _ (rb.out.ext hB) (ra.out.ext hB) eb.out ea.out bb ba).mono ?_
              rintro e w' ⟨rfl, hE⟩
              rw [ht.out]
              replace hB := hB.trans (hE.mono hB.size)
              clear hE
              go_wp2_with fail
              refine (equal_any _ _ _ _ _ _ la lb _ (ra.out.ext hB) (rb.out.ext hB) ea.out eb.out ba bb).mono ?_
              rintro e w' ⟨rfl, hE⟩
              rw [hq.out]
              replace hB := hB.trans (hE.mono hB.size)
              clear hE
              go_wp2
              go_ret
              exact ⟨rfl, hB0.out.trans (hB.mono hB0.out.size)⟩
    | true =>
      cases hp2 : isBelow lb lc with
      | false =>
        replace hp1 := hide hp1
        replace hp2 := hide hp2
        go_wp2_with fail
        refine (fn_below_any _ _ _ _ _ _ la lc _ (ra.out.ext hB) (rc.out.ext hB) ea.out ec.out ba bc).mono ?_
        rintro e w' ⟨rfl, hE⟩
        rw [hp1.out]
        replace hB := hB.trans (hE.mono hB.size)
        clear hE
        go_wp2_with fail
        refine (fn_below_any _ _ _ _ _ _ lb lc _ (rb.out.ext hB) (rc.out.ext hB) eb.out ec.out bb bc).mono ?_
        rintro e w' ⟨rfl, hE⟩
        rw [hp2.out]
        replace hB := hB.trans (hE.mono hB.size)
        clear hE
        cases hq1 : isBelow lc la with
        | false =>
          replace hq1 := hide hq1
          go_wp2_with fail
          refine (fn_below_any _ _ _ _ _ _ lc la _ (rc.out.ext hB) (ra.out.ext hB) ec.out ea.out bc ba).mono ?_
          rintro e w' ⟨rfl, hE⟩
          rw [hq1.out]
          replace hB := hB.trans (hE.mono hB.size)
          clear hE
          cases hs : isBelow la lb with
          | false =>
            replace hs := hide hs
            go_wp2_with fail
            refine (fn_below_any _ _ _ _ _ _ la lb _ (ra.out.ext hB) (rb.out.ext hB) ea.out eb.out ba bb).mono ?_
            rintro e w' ⟨rfl, hE⟩
            rw [hs.out]
            replace hB := hB.trans (hE.mono hB.size)
            clear hE
            go_wp2
            go_ret
            exact ⟨rfl, hB0.out.trans (hB.mono hB0.out.size)⟩
          | true =>
            cases ht : isBelow lb la with
            | false =>
              replace hs := hide hs
              replace ht := hide ht
              go_wp2_with fail
              refine (fn_below_any _ _ _ _ _ _ la lb _ (ra.out.ext hB) (rb.out.ext hB) ea.out eb.out ba bb).mono ?_
              rintro e w' ⟨rfl, hE⟩
              rw [hs.out]
              replace hB := hB.trans (hE.mono hB.size)
              clear hE
              go_wp2_with fail
              refine (fn_below_any _ _ _ _ _ _ lb la _ (rb.out.ext hB) (ra.out.ext hB) eb.out ea.out bb ba).mono ?_
              rintro e w' ⟨rfl, hE⟩
              rw [ht.out]
              replace hB := hB.trans (hE.mono hB.size)
              clear hE
              go_wp2
              go_ret
              exact ⟨rfl, hB0.out.trans (hB.mono hB0.out.size)⟩
            | true =>
              have hq : decide (la = lb) = true := decide_eq_true (lat9 hs ht)
              replace hs := hide hs
              replace ht := hide ht
              replace hq := hide hq
              go_wp2_with fail
              refine (fn_below_any _ _ _ _ _ _ la lb _ (ra.out.ext hB) (rb.out.ext hB) ea.out eb.out ba bb).mono ?_
              rintro e w' ⟨rfl, hE⟩
              rw [hs.out]
              replace hB := hB.trans (hE.mono hB.size)
              clear hE
              go_wp2_with fail
              refine (fn_below_any _ _ _ _ _ _ lb la _ (rb.out.ext hB) (ra.out.ext hB) eb.out ea.out bb ba).mono ?_
              rintro e w' ⟨rfl, hE⟩
              rw [ht.out]
              replace hB := hB.trans (hE.mono hB.size)
              clear hE
              go_wp2_with fail
              refine (equal_any _ _ _ _ _ _ la lb _ (ra.out.ext hB) (rb.out.ext hB) ea.out eb.out ba bb).mono ?_
              rintro e w' ⟨rfl, hE⟩
              rw [hq.out]
              replace hB := hB.trans (hE.mono hB.size)
              clear hE
              go_wp2
              go_ret
              exact ⟨rfl, hB0.out.trans (hB.mono hB0.out.size)⟩
        | true =>
          cases hq2 : isBelow lc lb with
          | false =>
            replace hq1 := hide hq1
            replace hq2 := hide hq2
            go_wp2_with fail
            refine (fn_below_any _ _ _ _ _ _ lc la _ (rc.out.ext hB) (ra.out.ext hB) ec.out ea.out bc ba).mono ?_
            rintro e w' ⟨rfl, hE⟩
            rw [hq1.out]
            replace hB := hB.trans (hE.mono hB.size)
            clear hE
            go_wp2_with fail
            refine (fn_below_any _ _ _ _ _ _ lc lb _ (rc.out.ext hB) (rb.out.ext hB) ec.out eb.out bc bb).mono ?_
            rintro e w' ⟨rfl, hE⟩
            rw [hq2.out]
            replace hB := hB.trans (hE.mono hB.size)
            clear hE
            cases hs : isBelow la lb with
            | false =>
              replace hs := hide hs
              go_wp2_with fail
              refine (fn_below_any _ _ _ _ _ _ la lb _ (ra.out.ext hB) (rb.out.ext hB) ea.out eb.out ba bb).mono ?_
              rintro e w' ⟨rfl, hE⟩
              rw [hs.out]
              replace hB := hB.trans (hE.mono hB.size)
              clear hE
              go_wp2
              go_ret
              exact ⟨rfl, hB0.out.trans (hB.mono hB0.out.size)⟩
            | true =>
              cases ht : isBelow lb la with
              | false =>
                replace hs := hide hs
                replace ht := hide ht
                go_wp2_with fail
                refine (fn_below_any _ _ _ _ _ _ la lb _ (ra.out.ext hB) (rb.out.ext hB) ea.out eb.out ba bb).mono ?_
                rintro e w' ⟨rfl, hE⟩
                rw [hs.out]
                replace hB := hB.trans (hE.mono hB.size)
                clear hE
                go_wp2_with fail
                refine (fn_below_any _ _ _ _ _ _ lb la _ (rb.out.ext hB) (ra.out.ext hB) eb.out ea.out bb ba).mono ?_
                rintro e w' ⟨rfl, hE⟩
                rw [ht.out]
                replace hB := hB.trans (hE.mono hB.size)
                clear hE
                go_wp2
                go_ret
                exact ⟨rfl, hB0.out.trans (hB.mono hB0.out.size)⟩
              | true =>
                have hq : decide (la = lb) = true := decide_eq_true (lat9 hs ht)
                replace hs := hide hs
                replace ht := hide ht
                replace hq := hide hq
                go_wp2_with fail
                refine (fn_below_any _ _ _ _ _ _ la lb _ (ra.out.ext hB) (rb.out.ext hB) ea.out eb.out ba bb).mono ?_
                rintro e w' ⟨rfl, hE⟩
                rw [hs.out]
                replace hB := hB.trans (hE.mono hB.size)
                clear hE
                go_wp2_with fail
                refine (fn_below_any _ _ _ _ _ _ lb la _ (rb.out.ext hB) (ra.out.ext hB) eb.out ea.out bb ba).mono ?_
                rintro e w' ⟨rfl, hE⟩
                rw [ht.out]
                replace hB := hB.trans (hE.mono hB.size)
                clear hE
                go_wp2_with fail
                refine (equal_any _ _ _ _ _ _ la lb _ (ra.out.ext hB) (rb.out.ext hB) ea.out eb.out ba bb).mono ?_
                rintro e w' ⟨rfl, hE⟩
                rw [hq.out]
                replace hB := hB.trans (hE.mono hB.size)
                clear hE
                go_wp2
                go_ret
                exact ⟨rfl, hB0.out.trans (hB.mono hB0.out.size)⟩
          | true =>
            have hq3 := k8.out hq1 hq2
            replace hq1 := hide hq1
            replace hq2 := hide hq2
            replace hq3 := hide hq3
            go_wp2_with fail
            refine (fn_below_any _ _ _ _ _ _ lc la _ (rc.out.ext hB) (ra.out.ext hB) ec.out ea.out bc ba).mono ?_
            rintro e w' ⟨rfl, hE⟩
            rw [hq1.out]
            replace hB := hB.trans (hE.mono hB.size)
            clear hE
            go_wp2_with fail
            refine (fn_below_any _ _ _ _ _ _ lc lb _ (rc.out.ext hB) (rb.out.ext hB) ec.out eb.out bc bb).mono ?_
            rintro e w' ⟨rfl, hE⟩
            rw [hq2.out]
            replace hB := hB.trans (hE.mono hB.size)
            clear hE
            go_wp2_with fail
            refine (fn_below_any _ _ _ _ _ _ lc lm _ (rc.out.ext hB) (rm.out.ext hB) ec.out em.out bc bm).mono ?_
            rintro e w' ⟨rfl, hE⟩
            rw [hq3.out]
            replace hB := hB.trans (hE.mono hB.size)
            clear hE
            cases hs : isBelow la lb with
            | false =>
              replace hs := hide hs
              go_wp2_with fail
              refine (fn_below_any _ _ _ _ _ _ la lb _ (ra.out.ext hB) (rb.out.ext hB) ea.out eb.out ba bb).mono ?_
              rintro e w' ⟨rfl, hE⟩
              rw [hs.out]
              replace hB := hB.trans (hE.mono hB.size)
              clear hE
              go_wp2
              go_ret
              exact ⟨rfl, hB0.out.trans (hB.mono hB0.out.size)⟩
            | true =>
              cases ht : isBelow lb la with
              | false =>
                replace hs := hide hs
                replace ht := hide ht
                go_wp2_with fail
                refine (fn_below_any _ _ _ _ _ _ la lb _ (ra.out.ext hB) (rb.out.ext hB) ea.out eb.out ba bb).mono ?_
                rintro e w' ⟨rfl, hE⟩
                rw [hs.out]
                replace hB := hB.trans (hE.mono hB.size)
                clear hE
                go_wp2_with fail
                refine (fn_below_any _ _ _ _ _ _ lb la _ (rb.out.ext hB) (ra.out.ext hB) eb.out ea.out bb ba).mono ?_
                rintro e w' ⟨rfl, hE⟩
                rw [ht.out]
                replace hB := hB.trans (hE.mono hB.size)
                clear hE
                go_wp2
                go_ret
                exact ⟨rfl, hB0.out.trans (hB.mono hB0.out.size)⟩
              | true =>
                have hq : decide (la = lb) = true := decide_eq_true (lat9 hs ht)
                replace hs := hide hs
                replace ht := hide ht
                replace hq := hide hq
                go_wp2_with fail
                refine (fn_below_any _ _ _ _ _ _ la lb _ (ra.out.ext hB) (rb.out.ext hB) ea.out eb.out ba bb).mono ?_
                rintro e w' ⟨rfl, hE⟩
                rw [hs.out]
                replace hB := hB.trans (hE.mono hB.size)
                clear hE
                go_wp2_with fail
                refine (fn_below_any _ _ _ _ _ _ lb la _ (rb.out.ext hB) (ra.out.ext hB) eb.out ea.out bb ba).mono ?_
                rintro e w' ⟨rfl, hE⟩
                rw [ht.out]
                replace hB := hB.trans (hE.mono hB.size)
                clear hE
                go_wp2_with fail
                refine (equal_any _ _ _ _ _ _ la lb _ (ra.out.ext hB) (rb.out.ext hB) ea.out eb.out ba bb).mono ?_
                rintro e w' ⟨rfl, hE⟩
                rw [hq.out]
                replace hB := hB.trans (hE.mono hB.size)
                clear hE
                go_wp2
                go_ret
                exact ⟨rfl, hB0.out.trans (hB.mono hB0.out.size)⟩
      | true =>
        have hp3 := k7.out hp1 hp2
        replace hp1 := hide hp1
        replace hp2 := hide hp2
        replace hp3 := hide hp3
        go_wp2_with fail
        refine (fn_below_any _ _ _ _ _ _ la lc _ (ra.out.ext hB) (rc.out.ext hB) ea.out ec.out ba bc).mono ?_
        rintro e w' ⟨rfl, hE⟩
        rw [hp1.out]
        replace hB := hB.trans (hE.mono hB.size)
        clear hE
        go_wp2_with fail
        refine (fn_below_any _ _ _ _ _ _ lb lc _ (rb.out.ext hB) (rc.out.ext hB) eb.out ec.out bb bc).mono ?_
        rintro e w' ⟨rfl, hE⟩
        rw [hp2.out]
        replace hB := hB.trans (hE.mono hB.size)
        clear hE
        go_wp2_with fail
        refine (fn_below_any _ _ _ _ _ _ lj lc _ (rj.out.ext hB) (rc.out.ext hB) ej.out ec.out bj bc).mono ?_
        rintro e w' ⟨rfl, hE⟩
        rw [hp3.out]
        replace hB := hB.trans (hE.mono hB.size)
        clear hE
        cases hq1 : isBelow lc la with
        | false =>
          replace hq1 := hide hq1
          go_wp2_with fail
          refine (fn_below_any _ _ _ _ _ _ lc la _ (rc.out.ext hB) (ra.out.ext hB) ec.out ea.out bc ba).mono ?_
          rintro e w' ⟨rfl, hE⟩
          rw [hq1.out]
          replace hB := hB.trans (hE.mono hB.size)
          clear hE
          cases hs : isBelow la lb with
          | false =>
            replace hs := hide hs
            go_wp2_with fail
            refine (fn_below_any _ _ _ _ _ _ la lb _ (ra.out.ext hB) (rb.out.ext hB) ea.out eb.out ba bb).mono ?_
            rintro e w' ⟨rfl, hE⟩
            rw [hs.out]
            replace hB := hB.trans (hE.mono hB.size)
            clear hE
            go_wp2
            go_ret
            exact ⟨rfl, hB0.out.trans (hB.mono hB0.out.size)⟩
          | true =>
            cases ht : isBelow lb la with
            | false =>
              replace hs := hide hs
              replace ht := hide ht
              go_wp2_with fail
              refine (fn_below_any _ _ _ _ _ _ la lb _ (ra.out.ext hB) (rb.out.ext hB) ea.out eb.out ba bb).mono ?_
              rintro e w' ⟨rfl, hE⟩
              rw [hs.out]
              replace hB := hB.trans (hE.mono hB.size)
              clear hE
              go_wp2_with fail
              refine (fn_below_any _ _ _ _ _ _ lb la _ (rb.out.ext hB) (ra.out.ext hB) eb.out ea.out bb ba).mono ?_
              rintro e w' ⟨rfl, hE⟩
              rw [ht.out]
              replace hB := hB.trans (hE.mono hB.size)
              clear hE
              go_wp2
              go_ret
              exact ⟨rfl, hB0.out.trans (hB.mono hB0.out.size)⟩
            | true =>
              have hq : decide (la = lb) = true := decide_eq_true (lat9 hs ht)
              replace hs := hide hs
              replace ht := hide ht
              replace hq := hide hq
              go_wp2_with fail
              refine (fn_below_any _ _ _ _ _ _ la lb _ (ra.out.ext hB) (rb.out.ext hB) ea.out eb.out ba bb).mono ?_
              rintro e w' ⟨rfl, hE⟩
              rw [hs.out]
              replace hB := hB.trans (hE.mono hB.size)
              clear hE
              go_wp2_with fail
              refine (fn_below_any _ _ _ _ _ _ lb la _ (rb.out.ext hB) (ra.out.ext hB) eb.out ea.out bb ba).mono ?_
              rintro e w' ⟨rfl, hE⟩
              rw [ht.out]
              replace hB := hB.trans (hE.mono hB.size)
              clear hE
              go_wp2_with fail
              refine (equal_any _ _ _ _ _ _ la lb _ (ra.out.ext hB) (rb.out.ext hB) ea.out eb.out ba bb).mono ?_
              rintro e w' ⟨rfl, hE⟩
              rw [hq.out]
              replace hB := hB.trans (hE.mono hB.size)
              clear hE
              go_wp2
              go_ret
              exact ⟨rfl, hB0.out.trans (hB.mono hB0.out.size)⟩
        | true =>
          cases hq2 : isBelow lc lb with
          | false =>
            replace hq1 := hide hq1
            replace hq2 := hide hq2
            go_wp2_with fail
            refine (fn_below_any _ _ _ _ _ _ lc la _ (rc.out.ext hB) (ra.out.ext hB) ec.out ea.out bc ba).mono ?_
            rintro e w' ⟨rfl, hE⟩
            rw [hq1.out]
            replace hB := hB.trans (hE.mono hB.size)
            clear hE
            go_wp2_with fail
            refine (fn_below_any _ _ _ _ _ _ lc lb _ (rc.out.ext hB) (rb.out.ext hB) ec.out eb.out bc bb).mono ?_
            rintro e w' ⟨rfl, hE⟩
            rw [hq2.out]
            replace hB := hB.trans (hE.mono hB.size)
            clear hE
            cases hs : isBelow la lb with
            | false =>
              replace hs := hide hs
              go_wp2_with fail
              refine (fn_below_any _ _ _ _ _ _ la lb _ (ra.out.ext hB) (rb.out.ext hB) ea.out eb.out ba bb).mono ?_
              rintro e w' ⟨rfl, hE⟩
              rw [hs.out]
              replace hB := hB.trans (hE.mono hB.size)
              clear hE
              go_wp2
              go_ret
              exact ⟨rfl, hB0.out.trans (hB.mono hB0.out.size)⟩
            | true =>
              cases ht : isBelow lb la with
              | false =>
                replace hs := hide hs
                replace ht := hide ht
                go_wp2_with fail
                refine (fn_below_any _ _ _ _ _ _ la lb _ (ra.out.ext hB) (rb.out.ext hB) ea.out eb.out ba bb).mono ?_
                rintro e w' ⟨rfl, hE⟩
                rw [hs.out]
                replace hB := hB.trans (hE.mono hB.size)
                clear hE
                go_wp2_with fail
                refine (fn_below_any _ _ _ _ _ _ lb la _ (rb.out.ext hB) (ra.out.ext hB) eb.out ea.out bb ba).mono ?_
                rintro e w' ⟨rfl, hE⟩
                rw [ht.out]
                replace hB := hB.trans (hE.mono hB.size)
                clear hE
                go_wp2
                go_ret
                exact ⟨rfl, hB0.out.trans (hB.mono hB0.out.size)⟩
              | true =>
                have hq : decide (la = lb) = true := decide_eq_true (lat9 hs ht)
                replace hs := hide hs
                replace ht := hide ht
                replace hq := hide hq
                go_wp2_with fail
                refine (fn_below_any _ _ _ _ _ _ la lb _ (ra.out.ext hB) (rb.out.ext hB) ea.out eb.out ba bb).mono ?_
                rintro e w' ⟨rfl, hE⟩
                rw [hs.out]
                replace hB := hB.trans (hE.mono hB.size)
                clear hE
                go_wp2_with fail
                refine (fn_below_any _ _ _ _ _ _ lb la _ (rb.out.ext hB) (ra.out.ext hB) eb.out ea.out bb ba).mono ?_
                rintro e w' ⟨rfl, hE⟩
                rw [ht.out]
                replace hB := hB.trans (hE.mono hB.size)
                clear hE
                go_wp2_with fail
                refine (equal_any _ _ _ _ _ _ la lb _ (ra.out.ext hB) (rb.out.ext hB) ea.out eb.out ba bb).mono ?_
                rintro e w' ⟨rfl, hE⟩
                rw [hq.out]
                replace hB := hB.trans (hE.mono hB.size)
                clear hE
                go_wp2
                go_ret
                exact ⟨rfl, hB0.out.trans (hB.mono hB0.out.size)⟩
          | true =>
            have hq3 := k8.out hq1 hq2
            replace hq1 := hide hq1
            replace hq2 := hide hq2
            replace hq3 := hide hq3
            go_wp2_with fail
            refine (fn_below_any _ _ _ _ _ _ lc la _ (rc.out.ext hB) (ra.out.ext hB) ec.out ea.out bc ba).mono ?_
            rintro e w' ⟨rfl, hE⟩
            rw [hq1.out]
            replace hB := hB.trans (hE.mono hB.size)
            clear hE
            go_wp2_with fail
            refine (fn_below_any _ _ _ _ _ _ lc lb _ (rc.out.ext hB) (rb.out.ext hB) ec.out eb.out bc bb).mono ?_
            rintro e w' ⟨rfl, hE⟩
            rw [hq2.out]
            replace hB := hB.trans (hE.mono hB.size)
            clear hE
            go_wp2_with fail
            refine (fn_below_any _ _ _ _ _ _ lc lm _ (rc.out.ext hB) (rm.out.ext hB) ec.out em.out bc bm).mono ?_
            rintro e w' ⟨rfl, hE⟩
            rw [hq3.out]
            replace hB := hB.trans (hE.mono hB.size)
            clear hE
            cases hs : isBelow la lb with
            | false =>
              replace hs := hide hs
              go_wp2_with fail
              refine (fn_below_any _ _ _ _ _ _ la lb _ (ra.out.ext hB) (rb.out.ext hB) ea.out eb.out ba bb).mono ?_
              rintro e w' ⟨rfl, hE⟩
              rw [hs.out]
              replace hB := hB.trans (hE.mono hB.size)
              clear hE
              go_wp2
              go_ret
              exact ⟨rfl, hB0.out.trans (hB.mono hB0.out.size)⟩
            | true =>
              cases ht : isBelow lb la with
              | false =>
                replace hs := hide hs
                replace ht := hide ht
                go_wp2_with fail
                refine (fn_below_any _ _ _ _ _ _ la lb _ (ra.out.ext hB) (rb.out.ext hB) ea.out eb.out ba bb).mono ?_
                rintro e w' ⟨rfl, hE⟩
                rw [hs.out]
                replace hB := hB.trans (hE.mono hB.size)
                clear hE
                go_wp2_with fail
                refine (fn_below_any _ _ _ _ _ _ lb la _ (rb.out.ext hB) (ra.out.ext hB) eb.out ea.out bb ba).mono ?_
                rintro e w' ⟨rfl, hE⟩
                rw [ht.out]
                replace hB := hB.trans (hE.mono hB.size)
                clear hE
                go_wp2
                go_ret
                exact ⟨rfl, hB0.out.trans (hB.mono hB0.out.size)⟩
              | true =>
                have hq : decide (la = lb) = true := decide_eq_true (lat9 hs ht)
                replace hs := hide hs
                replace ht := hide ht
                replace hq := hide hq
                go_wp2_with fail
                refine (fn_below_any _ _ _ _ _ _ la lb _ (ra.out.ext hB) (rb.out.ext hB) ea.out eb.out ba bb).mono ?_
                rintro e w' ⟨rfl, hE⟩
                rw [hs.out]
                replace hB := hB.trans (hE.mono hB.size)
                clear hE
                go_wp2_with fail
                refine (fn_below_any _ _ _ _ _ _ lb la _ (rb.out.ext hB) (ra.out.ext hB) eb.out ea.out bb ba).mono ?_
                rintro e w' ⟨rfl, hE⟩
                rw [ht.out]
                replace hB := hB.trans (hE.mono hB.size)
                clear hE
                go_wp2_with fail
                refine (equal_any _ _ _ _ _ _ la lb _ (ra.out.ext hB) (rb.out.ext hB) ea.out eb.out ba bb).mono ?_
                rintro e w' ⟨rfl, hE⟩
                rw [hq.out]
                replace hB := hB.trans (hE.mono hB.size)
                clear hE
                go_wp2
                go_ret
                exact ⟨rfl, hB0.out.trans (hB.mono hB0.out.size)⟩
  · have hz1 : nj = 0 := by rw [ej.out, hj.out, lat0 (by rw [← hev.out]; exact h0)]; rfl
    have hz2 : nm = 0 := by rw [em.out, hm.out, lat0 (by rw [← hev.out]; exact h0)]; rfl
    subst hz1 hz2
    have h0' : (ev == 0) = false := beq_eq_false_iff_ne.2 h0
    go_wp2
    go_ret
    exact ⟨rfl, hB0.out⟩
end Go.Proofs.YtbmcbbcgambflaaDoor
