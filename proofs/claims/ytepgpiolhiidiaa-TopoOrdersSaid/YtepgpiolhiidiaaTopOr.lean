/- TopoOrders, walked. -/
import Derived.Test.YtepgpiolhiidiaaTopNx
import Derived.Test.YtepgpiolhiidiaaTopDp
import Derived.Test.YtepgpiolhiidiaaGraF
namespace Go.Proofs.Ytepgpiolhiidiaa
open Go.RowKit Go.Shelf
attribute [local go_sem] Oper.semAt_some
theorem left_zero {nn : Nat} {a : List (Int × Int × Int)} : (leftN nn a).length = 0 ↔ (ordN nn a).length = nn := by
  constructor
  · intro h
    have h1 := List.eq_nil_of_length_eq_zero h
    unfold leftN at h1
    rw [List.filter_eq_nil_iff] at h1
    have h2 := nodup_len (nodes_nodup nn) (m := ordN nn a) (fun v hv => by have := h1 v hv; simpa using this)
    rw [nodes_len] at h2
    have h3 := ord_le (n := nn) (xs := a)
    omega
  · intro h
    have : leftN nn a = [] := by
      unfold leftN
      rw [List.filter_eq_nil_iff]
      intro v hv
      have := nodup_full (ord_nodup (n := nn) (xs := a)).1 ord_nodup.2 (by rw [h]; exact Nat.le_refl _) (mem_nodes.1 hv)
      simp [this]
    rw [this]; rfl
theorem leftN_len (nn : Nat) (a : List (Int × Int × Int)) : (leftN nn a).length ≤ nn := by
  have h1 := List.length_filter_le (fun v => !decide (v ∈ ordN nn a)) (nodes nn)
  rw [nodes_len] at h1
  exact h1
set_option maxRecDepth 100000 in
set_option maxHeartbeats 8000000 in
theorem topoOrders_any (n : Int) (A : Option Addr) (m c : Nat) (xs : List (Int × Int × Int)) (w : World) (hm : m = xs.length) (hmc : m ≤ c) (h : Rd edgeE w.heap.size w A xs) :
    Calls Try.prog 5 #[.agg #[.int .i64 n, .slice A m c]] w fun e w' => e = .returned (.bool true) ∧ Ext w w' := by
  replace h := hide h
  replace hm := hide hm
  go_enter Try.func5, Try.ntmps5
  go_upto_region 1 with fail
  obtain ⟨w0, hw0⟩ : ∃ w0, w0 = w.alloc (.cells #[.int .i64 n, .slice A m c] 24) := ⟨_, rfl⟩
  rw [← hw0]
  have T : Ext w w0 := by rw [hw0]; exact (Below.refl _ _).alloc (Nat.le_refl _) _
  have X1 : Hid (BoxG w0 w.heap.size n A m c) := hide (by rw [hw0]; exact BoxN.new w _ _)
  clear hw0
  obtain ⟨pg, hpg⟩ : ∃ b, b = w.heap.size := ⟨_, rfl⟩
  rw [← hpg] at X1 ⊢
  clear hpg
  go_wp2_with fail
  refine (wakes_any _).mono ?_
  rintro e w1 ⟨rfl, hE⟩
  replace T := T.trans (hE.mono T.size)
  replace X1 := hide (X1.out.ext hE)
  clear hE
  have k10 := X1.out.cell 0 (v := .int .i64 n) rfl
  have k11 := X1.out.cell 1 (v := .slice A m c) rfl
  have s1 := X1.out.lt
  have hla : (xs.take 60).length ≤ 60 := by rw [List.length_take]; omega
  obtain ⟨a, ha⟩ : ∃ a, a = xs.take 60 := ⟨_, rfl⟩
  rw [← ha] at hla
  replace ha := hide ha
  go_wp2_with fail
  refine (fair_any n A m c xs _ (h.out.ext T) hm.out hmc).mono ?_
  rintro e w2 ⟨v, rfl, hO, hE⟩
  rw [← ha.out] at hO
  replace T := T.trans (hE.mono T.size)
  replace X1 := hide (X1.out.ext hE)
  clear hE k10 k11 s1
  obtain ⟨A3, c3, rfl, r3, hcc3, -⟩ := hO.rd
  obtain ⟨n3, e3⟩ : ∃ q, q = List.length a := ⟨_, rfl⟩
  rw [← e3] at hcc3 ⊢
  replace r3 := hide r3
  replace e3 := hide e3
  clear hO
  have hl3 : n3 ≤ 60 := by have := e3.out; omega
  have hl3b : n3 ≤ 1000000 := by omega
  go_upto_region 4 with fail
  obtain ⟨w4, hw⟩ : ∃ q, q = World.alloc w2 (.cells #[.int .i64 n, .slice A3 n3 c3] 24) := ⟨_, rfl⟩
  rw [← hw]
  have hE : Ext w2 w4 := by rw [hw]; exact (Below.refl _ _).alloc (Nat.le_refl _) _
  have X3 : Hid (BoxG w4 (World.heap w2).size n A3 n3 c3) := hide (by rw [hw]; exact BoxN.new _ _ _)
  clear hw
  obtain ⟨p3, hp⟩ : ∃ q, q = (World.heap w2).size := ⟨_, rfl⟩
  rw [← hp] at X3 ⊢
  clear hp
  replace r3 := hide (r3.out.ext hE)
  have hB := hide (T.trans (hE.mono T.size))
  replace X1 := hide (X1.out.ext hE)
  clear hE T
  have T : Ext w4 w4 := Below.refl _ _
  obtain ⟨y2, hy2⟩ : ∃ q, q = ordB n a := ⟨_, rfl⟩
  obtain ⟨y4, hy4⟩ : ∃ q, q = chkG n a := ⟨_, rfl⟩
  obtain ⟨L1, hL1⟩ : ∃ q, q = ordL n a := ⟨_, rfl⟩
  obtain ⟨L2, hL2⟩ : ∃ q, q = leftL n a := ⟨_, rfl⟩
  obtain ⟨L3, hL3⟩ : ∃ q, q = depL n a := ⟨_, rfl⟩
  replace hy2 := hide hy2
  replace hy4 := hide hy4
  replace hL1 := hide hL1
  replace hL2 := hide hL2
  replace hL3 := hide hL3
  have k10 := (X1.out.ext T).cell 0 (v := .int .i64 n) rfl
  have k11 := (X1.out.ext T).cell 1 (v := .slice A m c) rfl
  have s1 := (X1.out.ext T).lt
  have k30 := (X3.out.ext T).cell 0 (v := .int .i64 n) rfl
  have k31 := (X3.out.ext T).cell 1 (v := .slice A3 n3 c3) rfl
  have s3 := (X3.out.ext T).lt
  go_wp2_with fail
  refine (order_any n A3 n3 c3 a _ (r3.out.ext T) e3.out hcc3 hl3b).mono ?_
  rintro e w5 ⟨v, rfl, hO, hE⟩
  rw [← hy2.out, ← hy4.out]
  rw [← hL1.out] at hO
  replace T := T.trans (hE.mono T.size)
  obtain ⟨A6, c6, rfl, r6, -, -⟩ := hO.rd
  obtain ⟨l6, e6⟩ : ∃ q, q = L1.length := ⟨_, rfl⟩
  rw [← e6] at hO ⊢
  replace r6 := hide r6
  replace e6 := hide e6
  clear hO hE
  clear k10 k11 s1 k30 k31 s3
  have k10 := (X1.out.ext T).cell 0 (v := .int .i64 n) rfl
  have k11 := (X1.out.ext T).cell 1 (v := .slice A m c) rfl
  have s1 := (X1.out.ext T).lt
  have k30 := (X3.out.ext T).cell 0 (v := .int .i64 n) rfl
  have k31 := (X3.out.ext T).cell 1 (v := .slice A3 n3 c3) rfl
  have s3 := (X3.out.ext T).lt
  go_wp2_with fail
  refine (left_any n A3 n3 c3 a _ (r3.out.ext T) e3.out hcc3 hl3b).mono ?_
  rintro e w6 ⟨v, rfl, hO, hE⟩
  rw [← hy4.out]
  rw [← hL2.out] at hO
  replace T := T.trans (hE.mono T.size)
  replace r6 := hide (r6.out.ext hE)
  obtain ⟨A7, c7, rfl, r7, -, -⟩ := hO.rd
  obtain ⟨l7, e7⟩ : ∃ q, q = L2.length := ⟨_, rfl⟩
  rw [← e7] at hO ⊢
  replace r7 := hide r7
  replace e7 := hide e7
  clear hO hE
  clear k10 k11 s1 k30 k31 s3
  have k10 := (X1.out.ext T).cell 0 (v := .int .i64 n) rfl
  have k11 := (X1.out.ext T).cell 1 (v := .slice A m c) rfl
  have s1 := (X1.out.ext T).lt
  have k30 := (X3.out.ext T).cell 0 (v := .int .i64 n) rfl
  have k31 := (X3.out.ext T).cell 1 (v := .slice A3 n3 c3) rfl
  have s3 := (X3.out.ext T).lt
  go_wp2_with fail
  refine (depth_any n A3 n3 c3 a _ (r3.out.ext T) e3.out hcc3 hl3b).mono ?_
  rintro e w7 ⟨v, rfl, hO, hE⟩
  rw [← hy2.out, ← hy4.out]
  rw [← hL3.out] at hO
  replace T := T.trans (hE.mono T.size)
  replace r6 := hide (r6.out.ext hE)
  replace r7 := hide (r7.out.ext hE)
  obtain ⟨A8, c8, rfl, r8, -, -⟩ := hO.rd
  obtain ⟨l8, e8⟩ : ∃ q, q = L3.length := ⟨_, rfl⟩
  rw [← e8] at hO ⊢
  replace r8 := hide r8
  replace e8 := hide e8
  clear hO hE
  clear k10 k11 s1 k30 k31 s3
  have k10 := (X1.out.ext T).cell 0 (v := .int .i64 n) rfl
  have k11 := (X1.out.ext T).cell 1 (v := .slice A m c) rfl
  have s1 := (X1.out.ext T).lt
  have k30 := (X3.out.ext T).cell 0 (v := .int .i64 n) rfl
  have k31 := (X3.out.ext T).cell 1 (v := .slice A3 n3 c3) rfl
  have s3 := (X3.out.ext T).lt
  go_wp2_with fail
  refine (refRight_any n A3 n3 c3 a _ (r3.out.ext T) e3.out hl3b).mono ?_
  rintro e w8 ⟨rfl, hE⟩
  replace T := T.trans (hE.mono T.size)
  replace r6 := hide (r6.out.ext hE)
  replace r7 := hide (r7.out.ext hE)
  replace r8 := hide (r8.out.ext hE)
  clear hE
  clear k10 k11 s1 k30 k31 s3
  cases hr : rightG n a with
  | false =>
    have v4 : y4 = 150 := by rw [hy4.out, chkG_no hr]
    have v2 : y2 = false := by rw [hy2.out]; unfold ordB; rw [hr]; rfl
    have v6 : l6 = 0 := by rw [e6.out, hL1.out]; unfold ordL; rw [if_neg (by rw [hr]; simp)]; rfl
    have v7 : l7 = 0 := by rw [e7.out, hL2.out]; unfold leftL; rw [if_neg (by rw [hr]; simp)]; rfl
    have v8 : l8 = 0 := by rw [e8.out, hL3.out]; unfold depL; rw [if_neg (by rw [← hy2.out, v2]; simp)]; rfl
    subst v4 v2 v6 v7 v8
    replace hr := hide hr
    have hfin := hide (hB.out.trans (T.mono hB.out.size))
    clear T
    go_wp2
    go_ret
    exact ⟨rfl, hfin.out⟩
  | true =>
    have v4 : y4 = 0 := by rw [hy4.out, chkG_yes hr]
    subst v4
    obtain ⟨nn, rfl⟩ : ∃ nn : Nat, n = nn := ⟨n.toNat, by have := ((rightG_iff n a).1 hr).1; omega⟩
    have hnn : nn ≤ 300 := by have := ((rightG_iff _ a).1 hr).2.1; omega
    have hfr : Hid (∀ e ∈ a, (0 ≤ e.1 ∧ e.1 < nn) ∧ 0 ≤ e.2.1 ∧ e.2.1 < nn) := hide (fun e he => (joins_of hr e he).1)
    have hfr1 : Hid (∀ e ∈ a, 0 ≤ e.1 ∧ e.1 < nn) := hide (fun e he => (hfr.out e he).1)
    have w1e : Hid (L2 = leftN nn a) := hide (by rw [hL2.out]; unfold leftL; rw [if_pos hr, Int.toNat_natCast])
    have w2e : Hid (y2 = decide ((ordN nn a).length = nn)) := hide (by rw [hy2.out]; unfold ordB; rw [hr, Int.toNat_natCast, Bool.true_and])
    have w3e : Hid (L1 = if y2 = true then ordN nn a else []) := hide (by
      rw [hL1.out]
      unfold ordL
      rw [Int.toNat_natCast]
      have := w2e.out
      by_cases hc : (ordN nn a).length = nn
      · rw [if_pos ⟨hr, hc⟩, this, decide_eq_true hc, if_pos rfl]
      · rw [if_neg (fun hh => hc hh.2), this, decide_eq_false hc, if_neg (by decide)])
    have w5e : Hid (L3 = if y2 = true then rowF nn (dR (rounds a nn)) else []) := hide (by
      rw [hL3.out]
      unfold depL
      rw [← hy2.out, Int.toNat_natCast]
      rfl)
    replace hr := hide hr
    have k10 := (X1.out.ext T).cell 0 (v := .int .i64 nn) rfl
    have k11 := (X1.out.ext T).cell 1 (v := .slice A m c) rfl
    have s1 := (X1.out.ext T).lt
    have k30 := (X3.out.ext T).cell 0 (v := .int .i64 nn) rfl
    have k31 := (X3.out.ext T).cell 1 (v := .slice A3 n3 c3) rfl
    have s3 := (X3.out.ext T).lt
    go_wp2_with fail
    refine (fair_any nn A m c xs _ ((h.out.ext (hB.out.trans (T.mono hB.out.size)))) hm.out hmc).mono ?_
    rintro e w9 ⟨v, rfl, hO, hE⟩
    rw [← ha.out] at hO
    replace T := T.trans (hE.mono T.size)
    replace r6 := hide (r6.out.ext hE)
    replace r7 := hide (r7.out.ext hE)
    replace r8 := hide (r8.out.ext hE)
    obtain ⟨A9, c9, rfl, r9, -, -⟩ := hO.rd
    rw [← e3.out] at hO ⊢
    replace r9 := hide r9
    clear hO hE
    clear k10 k11 s1 k30 k31 s3
    go_wp2_with fail
    refine (refOrder_any nn A9 n3 c9 a _ hnn r9.out e3.out hl3b hfr1.out).mono ?_
    rintro e w10 ⟨u, v, rfl, hO, hO2, hE⟩
    replace T := T.trans (hE.mono T.size)
    replace r6 := hide (r6.out.ext hE)
    replace r7 := hide (r7.out.ext hE)
    replace r8 := hide (r8.out.ext hE)
    obtain ⟨B1, d1, rfl, q1, -, -⟩ := hO.rd
    obtain ⟨B2, d2, rfl, q2, -, -⟩ := hO2.rd
    obtain ⟨t1, f1⟩ : ∃ q, q = (ordN nn a).length := ⟨_, rfl⟩
    obtain ⟨t2, f2⟩ : ∃ q, q = (leftN nn a).length := ⟨_, rfl⟩
    rw [← f1, ← f2]
    replace q1 := hide q1
    replace q2 := hide q2
    replace f1 := hide f1
    replace f2 := hide f2
    clear hO hO2 hE r9
    have hlz := left_zero (nn := nn) (a := a)
    rw [← f1.out, ← f2.out] at hlz
    have hl7 : l7 = t2 := by rw [e7.out, w1e.out, f2.out]
    have ht2 : t2 ≤ 300 := by rw [f2.out]; exact Nat.le_trans (leftN_len nn a) hnn
    have ht1 : t1 ≤ 300 := by rw [f1.out]; exact Nat.le_trans ord_le hnn
    subst hl7
    have T10 := hide T
    clear T
    cases y2 with
    | false =>
      have hz : l7 ≠ 0 := fun hc => by
        have h1 := hlz.1 hc
        have h2 := w2e.out
        rw [← f1.out, decide_eq_true h1] at h2
        cases h2
      have hz' : ((l7 : Int) == 0) = false := by simp; omega
      have v6 : l6 = 0 := by rw [e6.out, w3e.out]; rfl
      have v8 : l8 = 0 := by rw [e8.out, w5e.out]; rfl
      subst v6 v8
      replace hz := hide hz
      replace hlz := hide hlz
      go_wp2
      have hEq : Hid (∀ W, Ext w10 W → Calls Try.prog 19 #[.slice A7 l7 c7, .slice B2 l7 d2] W fun e w' => e = .returned (.bool true) ∧ Ext W w') := hide (fun W hW => by
        have h1 := equalI_any A7 B2 l7 c7 l7 d2 L2 (leftN nn a) W (r7.out.ext hW) (q2.out.ext hW) e7.out f2.out (by omega)
        rw [decide_eq_true w1e.out] at h1
        exact h1)
      have hsm : Hid (sameG nn a nn a = true) := hide (by unfold sameG; rw [decide_eq_true rfl, decide_eq_true rfl]; rfl)
      go_upto_region 10 with fail
      have Xa := X1.out.ext T10.out
      have Xb := X3.out.ext T10.out
      have k10 := Xa.cell 0 (v := .int .i64 nn) rfl
      have k11 := Xa.cell 1 (v := .slice A m c) rfl
      have s1 := Xa.lt
      have k30 := Xb.cell 0 (v := .int .i64 nn) rfl
      have k31 := Xb.cell 1 (v := .slice A3 n3 c3) rfl
      have s3 := Xb.lt
      have Rg := hide (r3.out.ext T10.out)
      have hBw := hide (hB.out.trans (T10.out.mono hB.out.size))
      have T : Ext w10 w10.drew := (Below.refl _ _).drew
      refine wp_region_mix (fun W => Below w10.heap.size w10 W) [(0, true), (1, true), (2, true), (3, true), (4, true), (5, true), (6, true), (7, true), (8, true), (9, true), (10, true), (11, true), (12, true), (13, false), (14, true), (15, true), (16, true), (17, true), (18, true), (19, true), (20, true), (21, true), (22, true), (23, true), (24, true), (25, true), (26, true), (27, true), (28, true), (29, true), (30, true), (31, false), (32, false), (33, true), (34, true)] (by kernel_rfl) (by kernel_rfl) (by kernel_rfl) (by kernel_rfl) (fun _ _ d _ _ h => by cases d <;> exact h) ?_ ?_
      · exact T
      obtain ⟨wl, hwh⟩ : ∃ x, x = w10.drew := ⟨_, rfl⟩
      rw [← hwh] at T ⊢
      clear hwh
      iterate 3
        apply mix_q rfl rfl
        · intro W hW
          have hcW := (bcell hW).1
          go_simp
          try exact rfl
        simp only [Act.put, List.setIfInBounds_toArray, List.set_cons_zero, List.set_cons_succ]
      iterate 2
        apply mix_on rfl (wanted_is rfl rfl rfl rfl rfl)
        · intro W hW
          have hcW := (bcell hW).1
          go_simp
          try exact rfl
        simp only [Act.put, List.setIfInBounds_toArray, List.set_cons_zero, List.set_cons_succ]
      iterate 2
        apply mix_q rfl rfl
        · intro W hW
          have hcW := (bcell hW).1
          go_simp
          try exact rfl
        simp only [Act.put, List.setIfInBounds_toArray, List.set_cons_zero, List.set_cons_succ]
      iterate 2
        apply mix_on rfl (wanted_is rfl rfl rfl rfl rfl)
        · intro W hW
          have hcW := (bcell hW).1
          go_simp
          try exact rfl
        simp only [Act.put, List.setIfInBounds_toArray, List.set_cons_zero, List.set_cons_succ]
      iterate 2
        apply mix_q rfl rfl
        · intro W hW
          have hcW := (bcell hW).1
          go_simp
          try exact rfl
        simp only [Act.put, List.setIfInBounds_toArray, List.set_cons_zero, List.set_cons_succ]
      iterate 2
        apply mix_on rfl (wanted_is rfl rfl rfl rfl rfl)
        · intro W hW
          have hcW := (bcell hW).1
          go_simp
          try exact rfl
        simp only [Act.put, List.setIfInBounds_toArray, List.set_cons_zero, List.set_cons_succ]
      refine mix_won rfl (wanted_is rfl rfl rfl rfl rfl) (fun K hK => ?_)
      go_simp
      refine (hEq.out _ T).mono ?_
      rintro e wn ⟨rfl, hE⟩
      refine hK _ _ (T.trans (hE.mono T.size)) ?_
      clear hK K
      try simp only [Act.put, List.setIfInBounds_toArray, List.set_cons_zero, List.set_cons_succ]
      replace T := T.trans (hE.mono T.size)
      iterate 1
        apply mix_on rfl (wanted_is rfl rfl rfl rfl rfl)
        · intro W hW
          have hcW := (bcell hW).1
          go_simp
          try exact rfl
        simp only [Act.put, List.setIfInBounds_toArray, List.set_cons_zero, List.set_cons_succ]
      iterate 2
        apply mix_q rfl rfl
        · intro W hW
          have hcW := (bcell hW).1
          go_simp
          try exact rfl
        simp only [Act.put, List.setIfInBounds_toArray, List.set_cons_zero, List.set_cons_succ]
      iterate 5
        apply mix_on rfl (wanted_is rfl rfl rfl rfl rfl)
        · intro W hW
          have hcW := (bcell hW).1
          go_simp
          try exact rfl
        simp only [Act.put, List.setIfInBounds_toArray, List.set_cons_zero, List.set_cons_succ]
      iterate 2
        apply mix_q rfl rfl
        · intro W hW
          have hcW := (bcell hW).1
          go_simp
          try exact rfl
        simp only [Act.put, List.setIfInBounds_toArray, List.set_cons_zero, List.set_cons_succ]
      iterate 3
        apply mix_on rfl (wanted_is rfl rfl rfl rfl rfl)
        · intro W hW
          have hcW := (bcell hW).1
          go_simp
          try exact rfl
        simp only [Act.put, List.setIfInBounds_toArray, List.set_cons_zero, List.set_cons_succ]
      iterate 2
        apply mix_q rfl rfl
        · intro W hW
          have hcW := (bcell hW).1
          go_simp
          try exact rfl
        simp only [Act.put, List.setIfInBounds_toArray, List.set_cons_zero, List.set_cons_succ]
      iterate 2
        apply mix_on rfl (wanted_is rfl rfl rfl rfl rfl)
        · intro W hW
          have hcW := (bcell hW).1
          go_simp
          try exact rfl
        simp only [Act.put, List.setIfInBounds_toArray, List.set_cons_zero, List.set_cons_succ]
      refine mix_won rfl (wanted_is rfl rfl rfl rfl rfl) (fun K hK => ?_)
      go_simp
      refine (fair_any nn A m c xs _ (h.out.ext (hBw.out.trans (T.mono hBw.out.size))) hm.out hmc).mono ?_
      rintro e wn2 ⟨v, rfl, hOf, hE2⟩
      refine hK _ _ (T.trans (hE2.mono T.size)) ?_
      clear hK K
      try simp only [Act.put, List.setIfInBounds_toArray, List.set_cons_zero, List.set_cons_succ]
      replace T := T.trans (hE2.mono T.size)
      rw [← ha.out] at hOf
      obtain ⟨A11, c11, rfl, r11, -, -⟩ := hOf.rd
      rw [← e3.out] at hOf ⊢
      replace r11 := hide r11
      clear hOf
      refine mix_won rfl (wanted_is rfl rfl rfl rfl rfl) (fun K hK => ?_)
      go_simp
      refine (refSame_any nn nn A3 A11 n3 c3 n3 c11 a a _ (Rg.out.ext T) e3.out r11.out e3.out hl3b).mono ?_
      rintro e wn3 ⟨rfl, hE3⟩
      rw [hsm.out]
      refine hK _ _ (T.trans (hE3.mono T.size)) ?_
      clear hK K
      try simp only [Act.put, List.setIfInBounds_toArray, List.set_cons_zero, List.set_cons_succ]
      replace T := T.trans (hE3.mono T.size)
      iterate 1
        apply mix_on rfl (wanted_is rfl rfl rfl rfl rfl)
        · intro W hW
          have hcW := (bcell hW).1
          go_simp
          try exact rfl
        simp only [Act.put, List.setIfInBounds_toArray, List.set_cons_zero, List.set_cons_succ]
      iterate 1
        apply mix_q rfl rfl
        · intro W hW
          have hcW := (bcell hW).1
          go_simp
          try exact rfl
        simp only [Act.put, List.setIfInBounds_toArray, List.set_cons_zero, List.set_cons_succ]
      refine mix_nil ?_
      clear r11 hE2 hE3 hE hEq hsm Rg k10 k11 s1 k30 k31 s3
      have hfin := hide (hBw.out.trans (T.mono hBw.out.size))
      clear T
      go_wp2
      go_ret
      exact ⟨rfl, hfin.out⟩
    | true =>
      have hz : l7 = 0 := hlz.2 (by
        have h2 := w2e.out
        rw [f1.out]
        simpa using h2.symm)
      have v6 : l6 = t1 := by rw [e6.out, w3e.out, if_pos rfl, f1.out]
      have v1 : t1 = nn := hlz.1 hz
      have v8 : l8 = nn := by rw [e8.out, w5e.out, if_pos rfl, rowF_len]
      subst v6 v8 hz
      subst v1
      replace hlz := hide hlz
      have r6b := r6.out
      rw [w3e.out, if_pos rfl] at r6b
      have r8b := r8.out
      rw [w5e.out, if_pos rfl] at r8b
      replace r6b := hide r6b
      replace r8b := hide r8b
      go_wp2
      have hEq : Hid (∀ W, Ext w10 W → Calls Try.prog 19 #[.slice A7 0 c7, .slice B2 0 d2] W fun e w' => e = .returned (.bool true) ∧ Ext W w') := hide (fun W hW => by
        have h1 := equalI_any A7 B2 0 c7 0 d2 L2 (leftN l6 a) W (r7.out.ext hW) (q2.out.ext hW) e7.out f2.out (by omega)
        rw [decide_eq_true w1e.out] at h1
        exact h1)
      have hsm : Hid (sameG l6 a l6 a = true) := hide (by unfold sameG; rw [decide_eq_true rfl, decide_eq_true rfl]; rfl)
      go_upto_region 10 with fail
      have Xa := X1.out.ext T10.out
      have Xb := X3.out.ext T10.out
      have k10 := Xa.cell 0 (v := .int .i64 l6) rfl
      have k11 := Xa.cell 1 (v := .slice A m c) rfl
      have s1 := Xa.lt
      have k30 := Xb.cell 0 (v := .int .i64 l6) rfl
      have k31 := Xb.cell 1 (v := .slice A3 n3 c3) rfl
      have s3 := Xb.lt
      have Rg := hide (r3.out.ext T10.out)
      have hBw := hide (hB.out.trans (T10.out.mono hB.out.size))
      have T : Ext w10 w10.drew := (Below.refl _ _).drew
      refine wp_region_mix (fun W => Below w10.heap.size w10 W) [(0, true), (1, true), (2, true), (3, true), (4, true), (5, true), (6, true), (7, true), (8, true), (9, true), (10, true), (11, true), (12, true), (13, false), (14, true), (15, true), (16, true), (17, true), (18, true), (19, true), (20, true), (21, true), (22, true), (23, true), (24, true), (25, true), (26, true), (27, true), (28, true), (29, true), (30, true), (31, false), (32, false), (33, true), (34, true)] (by kernel_rfl) (by kernel_rfl) (by kernel_rfl) (by kernel_rfl) (fun _ _ d _ _ h => by cases d <;> exact h) ?_ ?_
      · exact T
      obtain ⟨wl, hwh⟩ : ∃ x, x = w10.drew := ⟨_, rfl⟩
      rw [← hwh] at T ⊢
      clear hwh
      iterate 3
        apply mix_q rfl rfl
        · intro W hW
          have hcW := (bcell hW).1
          go_simp
          try exact rfl
        simp only [Act.put, List.setIfInBounds_toArray, List.set_cons_zero, List.set_cons_succ]
      iterate 2
        apply mix_on rfl (wanted_is rfl rfl rfl rfl rfl)
        · intro W hW
          have hcW := (bcell hW).1
          go_simp
          try exact rfl
        simp only [Act.put, List.setIfInBounds_toArray, List.set_cons_zero, List.set_cons_succ]
      iterate 2
        apply mix_q rfl rfl
        · intro W hW
          have hcW := (bcell hW).1
          go_simp
          try exact rfl
        simp only [Act.put, List.setIfInBounds_toArray, List.set_cons_zero, List.set_cons_succ]
      iterate 2
        apply mix_on rfl (wanted_is rfl rfl rfl rfl rfl)
        · intro W hW
          have hcW := (bcell hW).1
          go_simp
          try exact rfl
        simp only [Act.put, List.setIfInBounds_toArray, List.set_cons_zero, List.set_cons_succ]
      iterate 2
        apply mix_q rfl rfl
        · intro W hW
          have hcW := (bcell hW).1
          go_simp
          try exact rfl
        simp only [Act.put, List.setIfInBounds_toArray, List.set_cons_zero, List.set_cons_succ]
      iterate 2
        apply mix_on rfl (wanted_is rfl rfl rfl rfl rfl)
        · intro W hW
          have hcW := (bcell hW).1
          go_simp
          try exact rfl
        simp only [Act.put, List.setIfInBounds_toArray, List.set_cons_zero, List.set_cons_succ]
      refine mix_won rfl (wanted_is rfl rfl rfl rfl rfl) (fun K hK => ?_)
      go_simp
      refine (hEq.out _ T).mono ?_
      rintro e wn ⟨rfl, hE⟩
      refine hK _ _ (T.trans (hE.mono T.size)) ?_
      clear hK K
      try simp only [Act.put, List.setIfInBounds_toArray, List.set_cons_zero, List.set_cons_succ]
      replace T := T.trans (hE.mono T.size)
      iterate 1
        apply mix_on rfl (wanted_is rfl rfl rfl rfl rfl)
        · intro W hW
          have hcW := (bcell hW).1
          go_simp
          try exact rfl
        simp only [Act.put, List.setIfInBounds_toArray, List.set_cons_zero, List.set_cons_succ]
      iterate 2
        apply mix_q rfl rfl
        · intro W hW
          have hcW := (bcell hW).1
          go_simp
          try exact rfl
        simp only [Act.put, List.setIfInBounds_toArray, List.set_cons_zero, List.set_cons_succ]
      iterate 5
        apply mix_on rfl (wanted_is rfl rfl rfl rfl rfl)
        · intro W hW
          have hcW := (bcell hW).1
          go_simp
          try exact rfl
        simp only [Act.put, List.setIfInBounds_toArray, List.set_cons_zero, List.set_cons_succ]
      iterate 2
        apply mix_q rfl rfl
        · intro W hW
          have hcW := (bcell hW).1
          go_simp
          try exact rfl
        simp only [Act.put, List.setIfInBounds_toArray, List.set_cons_zero, List.set_cons_succ]
      iterate 3
        apply mix_on rfl (wanted_is rfl rfl rfl rfl rfl)
        · intro W hW
          have hcW := (bcell hW).1
          go_simp
          try exact rfl
        simp only [Act.put, List.setIfInBounds_toArray, List.set_cons_zero, List.set_cons_succ]
      iterate 2
        apply mix_q rfl rfl
        · intro W hW
          have hcW := (bcell hW).1
          go_simp
          try exact rfl
        simp only [Act.put, List.setIfInBounds_toArray, List.set_cons_zero, List.set_cons_succ]
      iterate 2
        apply mix_on rfl (wanted_is rfl rfl rfl rfl rfl)
        · intro W hW
          have hcW := (bcell hW).1
          go_simp
          try exact rfl
        simp only [Act.put, List.setIfInBounds_toArray, List.set_cons_zero, List.set_cons_succ]
      refine mix_won rfl (wanted_is rfl rfl rfl rfl rfl) (fun K hK => ?_)
      go_simp
      refine (fair_any l6 A m c xs _ (h.out.ext (hBw.out.trans (T.mono hBw.out.size))) hm.out hmc).mono ?_
      rintro e wn2 ⟨v, rfl, hOf, hE2⟩
      refine hK _ _ (T.trans (hE2.mono T.size)) ?_
      clear hK K
      try simp only [Act.put, List.setIfInBounds_toArray, List.set_cons_zero, List.set_cons_succ]
      replace T := T.trans (hE2.mono T.size)
      rw [← ha.out] at hOf
      obtain ⟨A11, c11, rfl, r11, -, -⟩ := hOf.rd
      rw [← e3.out] at hOf ⊢
      replace r11 := hide r11
      clear hOf
      refine mix_won rfl (wanted_is rfl rfl rfl rfl rfl) (fun K hK => ?_)
      go_simp
      refine (refSame_any l6 l6 A3 A11 n3 c3 n3 c11 a a _ (Rg.out.ext T) e3.out r11.out e3.out hl3b).mono ?_
      rintro e wn3 ⟨rfl, hE3⟩
      rw [hsm.out]
      refine hK _ _ (T.trans (hE3.mono T.size)) ?_
      clear hK K
      try simp only [Act.put, List.setIfInBounds_toArray, List.set_cons_zero, List.set_cons_succ]
      replace T := T.trans (hE3.mono T.size)
      iterate 1
        apply mix_on rfl (wanted_is rfl rfl rfl rfl rfl)
        · intro W hW
          have hcW := (bcell hW).1
          go_simp
          try exact rfl
        simp only [Act.put, List.setIfInBounds_toArray, List.set_cons_zero, List.set_cons_succ]
      iterate 1
        apply mix_q rfl rfl
        · intro W hW
          have hcW := (bcell hW).1
          go_simp
          try exact rfl
        simp only [Act.put, List.setIfInBounds_toArray, List.set_cons_zero, List.set_cons_succ]
      refine mix_nil ?_
      clear r11 hE2 hE3 hE hEq hsm Rg k10 k11 s1 k30 k31 s3
      have hEq1 : Hid (∀ W, Ext w10 W → Calls Try.prog 19 #[.slice A6 l6 c6, .slice B1 l6 d1] W fun e w' => e = .returned (.bool true) ∧ Ext W w') := hide (fun W hW => by
        have h1 := equalI_any A6 B1 l6 c6 l6 d1 (ordN l6 a) (ordN l6 a) W (r6b.out.ext hW) (q1.out.ext hW) f1.out f1.out (by omega)
        rw [decide_eq_true rfl] at h1
        exact h1)
      have T11 := T10.out.trans (T.mono T10.out.size)
      have k10 := (X1.out.ext T11).cell 0 (v := .int .i64 l6) rfl
      have k11 := (X1.out.ext T11).cell 1 (v := .slice A m c) rfl
      have s1 := (X1.out.ext T11).lt
      go_wp2_with fail
      refine (hEq1.out _ T).mono ?_
      rintro e w11 ⟨rfl, hE⟩
      replace T := T.trans (hE.mono T.size)
      clear k10 k11 s1 T11 hE hEq1
      have T11 := T10.out.trans (T.mono T10.out.size)
      have k10 := (X1.out.ext T11).cell 0 (v := .int .i64 l6) rfl
      have k11 := (X1.out.ext T11).cell 1 (v := .slice A m c) rfl
      have s1 := (X1.out.ext T11).lt
      go_wp2_with fail
      refine (fair_any l6 A m c xs _ (h.out.ext (hBw.out.trans (T.mono hBw.out.size))) hm.out hmc).mono ?_
      rintro e w12 ⟨v, rfl, hOf, hE⟩
      replace T := T.trans (hE.mono T.size)
      rw [← ha.out] at hOf
      obtain ⟨A11, c11, rfl, r11, -, -⟩ := hOf.rd
      rw [← e3.out] at hOf ⊢
      replace r11 := hide r11
      clear hOf k10 k11 s1 T11 hE
      go_wp2_with fail
      refine (refDepth_any l6 A11 n3 c11 a _ hnn r11.out e3.out hl3b hfr.out).mono ?_
      rintro e w13 ⟨v, rfl, hOd, hE⟩
      replace T := T.trans (hE.mono T.size)
      obtain ⟨A12, c12, rfl, r12, -, -⟩ := hOd.rd
      rw [rowF_len] at hOd ⊢
      have hEq2 := equalI_any A8 A12 l6 c8 l6 c12 (rowF l6 (dR (rounds a l6))) (rowF l6 (dR (rounds a l6))) w13 (r8b.out.ext T) r12 (rowF_len _ _).symm (rowF_len _ _).symm (by omega)
      rw [decide_eq_true rfl] at hEq2
      replace hEq2 := hide hEq2
      clear hOd hE r12 r11
      go_wp2_with fail
      refine hEq2.out.mono ?_
      rintro e w14 ⟨rfl, hE⟩
      have hfin := hide (hBw.out.trans ((T.trans (hE.mono T.size)).mono hBw.out.size))
      clear T hE hEq2
      go_wp2
      go_ret
      exact ⟨rfl, hfin.out⟩
end Go.Proofs.Ytepgpiolhiidiaa
