/- graph.all, Check, Same, of, Of; the document's Right, Same; fair, small. -/
import Derived.Test.YtepgpiolhiidiaaGraP
namespace Go.Proofs.Ytepgpiolhiidiaa
open Go.RowKit

/-- a function that is handed on, asked of each element of a row -/
def HoldsE (f : FuncId) (cb : Array Value) (H : Nat → Int × Int × Int → Bool) (xs : List (Int × Int × Int)) (w : World) : Prop :=
  (∀ (args : Array Value) (W : World), (callFunc f args).run Try.prog W = .ok (.enter f args) W) ∧
  ∀ (i : Nat) (a b c : Int) (W : World), xs[i]? = some (a, b, c) → Ext w W → Calls Try.prog f (#[.int .i64 (i : Int), .agg #[.int .i64 a, .int .i64 b, .int .i64 c]] ++ cb) W fun e W' => e = .returned (.bool (H i (a, b, c))) ∧ Ext W W'
set_option maxHeartbeats 1000000 in
theorem all_Edge (A : Option Addr) (n c : Nat) (xs : List (Int × Int × Int)) (f : FuncId) (cb : Array Value) (H : Nat → Int × Int × Int → Bool) (w : World) (hn : n = xs.length) (h : Rd edgeE w.heap.size w A xs) (hb : n ≤ 1000000) (hf : HoldsE f cb H xs w) :
    Calls Try.prog 41 #[.slice A n c, .func (.func f) #[] cb] w fun e w' => e = .returned (.bool (allH H xs)) ∧ Ext w w' := by
  replace hn := hide hn
  replace h := hide h
  obtain ⟨henter, hask⟩ := hf
  replace hask := hide hask
  go_enter Try.func41, Try.ntmps41
  go_wp2
  go_loopw [9] (fun i wr => ∃ k : Nat, k ≤ n ∧ i = .int .i64 k ∧ Hid (∀ j x, j < k → xs[j]? = some x → H j x = true) ∧ Ext w wr) (fun i _ => n - (intOf i).toNat)
  case atStart => exact ⟨0, Nat.zero_le _, rfl, hide (fun j x hj => by omega), Below.refl _ _⟩
  case round =>
    obtain ⟨k, hk, rfl, hall, hB⟩ := hrel
    obtain ⟨hc, hf⟩ := bcell hB
    have hsz := hB.size
    by_cases hlt : k < n
    · have hlt' : (k : Int) < (n : Int) := by omega
      obtain ⟨b, off, rfl, hra⟩ := h.out.at_ (i := k) (by rw [← hn.out]; exact hlt)
      have hb1 := hra.1
      have hbr : b < wr.heap.size := by omega
      obtain ⟨⟨p1, p2, p3⟩, hx⟩ := get_some (i := k) (by rw [← hn.out]; exact hlt)
      obtain ⟨hx1, hx2, hx3⟩ := (hra.below hB).edge hx
      replace hx := hide hx
      replace hra := hide hra
      clear hc hf
      go_upto_region 4 with fail
      obtain ⟨w1, hw1⟩ : ∃ x, x = wr.alloc (.cells #[.int .i64 p1, .int .i64 p2, .int .i64 p3] 50) := ⟨_, rfl⟩
      rw [← hw1]
      have hE : Ext wr w1 := by rw [hw1]; exact (Below.refl _ _).alloc (Nat.le_refl _) _
      have X6 : BoxN w1 wr.heap.size 50 #[.int .i64 p1, .int .i64 p2, .int .i64 p3] := by rw [hw1]; exact BoxN.new _ _ _
      clear hw1
      have hB1 := hB.trans (hE.mono hB.size)
      obtain ⟨p6, hp6⟩ : ∃ b, b = wr.heap.size := ⟨_, rfl⟩
      rw [← hp6] at X6 ⊢
      clear hp6 hx1 hx2 hx3
      have k60 := X6.cell 0 (v := .int .i64 p1) rfl
      have k61 := X6.cell 1 (v := .int .i64 p2) rfl
      have k62 := X6.cell 2 (v := .int .i64 p3) rfl
      have s6 := X6.lt
      go_wp2_with fail
      refine (hask.out k p1 p2 p3 _ hx.out hB1).mono ?_
      rintro e w2 ⟨rfl, hE2⟩
      have hB2 := hB1.trans (hE2.mono hB1.size)
      clear k60 k61 k62 s6
      cases hh : H k (p1, p2, p3) with
      | true =>
        have hall2 : Hid (∀ j x, j < k + 1 → xs[j]? = some x → H j x = true) := hide (fun j x hj hx' => by
          by_cases hjk : j = k
          · subst hjk
            rw [hx.out] at hx'
            injection hx' with hx'
            rw [← hx']; exact hh
          · exact hall.out j x (by omega) hx')
        go_wp2
        refine ⟨?_, ?_⟩
        · first
            | exact ⟨k + 1, by omega, by go_num, hall2, hB2⟩
            | ((repeat apply Exists.intro); exact ⟨⟨k + 1, by omega, by go_num, hall2, hB2⟩, rfl⟩)
        · first | (simp [intOf, lenV]; omega) | (simp [intOf]; omega) | (simp [intOf]; done)
      | false =>
        have hv : Hid (allH H xs = false) := hide (allH_false hx.out hh)
        go_wp2
        go_ret
        exact ⟨ret_bool hv.out.symm, hB2⟩
    · have hlt' : ¬ (k : Int) < (n : Int) := by omega
      have hv : Hid (allH H xs = true) := hide (allH_true (k := k) (by rw [← hn.out]; omega) (fun i x hi hx => hall.out i x hi hx))
      go_wp2
      go_ret
      exact ⟨ret_bool hv.out.symm, hB⟩
theorem enter_chk (args : Array Value) (w : World) : (callFunc 42 args).run Try.prog w = .ok (.enter 42 args) w := enters_of Try.func42 (by kernel_rfl) rfl args w
theorem below_cell {w W : World} (h : Ext w W) {g o : Nat} {v : Value} (hg : g < w.heap.size) (hc : w.cell? ⟨g, o, none⟩ = some v) : W.cell? ⟨g, o, none⟩ = some v := ((bcell h).1 g o hg).trans hc
set_option maxHeartbeats 4000000 in
theorem chkFun_any (n a b c : Int) (A : Option Addr) (m cc : Nat) (xs : List (Int × Int × Int)) (i : Nat) (g : Nat) (w : World) (hb : g < w.heap.size) (hc0 : w.cell? ⟨g, 0, none⟩ = some (.int .i64 n)) (hc1 : w.cell? ⟨g, 1, none⟩ = some (.slice A m cc))
    (hm : m = xs.length) (hl : m ≤ 1000000) (h : Rd edgeE w.heap.size w A xs) (hi : xs[i]? = some (a, b, c)) :
    Calls Try.prog 42 #[.int .i64 (i : Int), .agg #[.int .i64 a, .int .i64 b, .int .i64 c], .pointer (some ⟨g, 0, none⟩)] w fun e w' => e = .returned (.bool (stepE n xs i (a, b, c))) ∧ Ext w w' := by
  have hv : Hid (stepE n xs i (a, b, c) = (rightE n (a, b, c) && (decide (i = 0) || ltE (xs.getD (i - 1) (0, 0, 0)) (a, b, c)))) := hide rfl
  obtain ⟨q, hq⟩ : ∃ q, q = stepE n xs i (a, b, c) := ⟨_, rfl⟩
  rw [← hq] at hv ⊢
  clear hq
  have him : i < m := by rw [hm]; exact (List.getElem?_eq_some_iff.1 hi).1
  replace hm := hide hm
  replace h := hide h
  replace hi := hide hi
  go_enter Try.func42, Try.ntmps42
  go_upto_region 1 with fail
  obtain ⟨w1, hw1⟩ : ∃ x, x = w.alloc (.cells #[.int .i64 a, .int .i64 b, .int .i64 c] 50) := ⟨_, rfl⟩
  rw [← hw1]
  have hE0 : Ext w w1 := by rw [hw1]; exact (Below.refl _ _).alloc (Nat.le_refl _) _
  have X6 : BoxN w1 w.heap.size 50 #[.int .i64 a, .int .i64 b, .int .i64 c] := by rw [hw1]; exact BoxN.new _ _ _
  clear hw1
  have hsz := hE0.size
  have hb' : g < w1.heap.size := by omega
  have q0 := below_cell hE0 hb hc0
  have q1 := below_cell hE0 hb hc1
  have h1 := hide (h.out.ext hE0)
  clear hc0 hc1 hb h
  obtain ⟨p6, hp6⟩ : ∃ b, b = w.heap.size := ⟨_, rfl⟩
  rw [← hp6] at X6 ⊢
  clear hp6
  have k60 := X6.cell 0 (v := .int .i64 a) rfl
  have k61 := X6.cell 1 (v := .int .i64 b) rfl
  have k62 := X6.cell 2 (v := .int .i64 c) rfl
  have s6 := X6.lt
  have T : Ext w1 w1.drew := (Below.refl _ _).drew
  cases hr : rightE n (a, b, c) with
  | false =>
    have hv2 : Hid (q = false) := hide (by rw [hv.out, hr]; rfl)
    refine wp_region_mix (fun W => Below w1.heap.size w1 W) [(0, true), (1, true), (2, true), (3, false), (4, true), (5, true), (6, true), (7, true), (8, true), (9, true), (10, true), (11, true), (12, true), (13, true), (14, true), (15, false), (16, true), (17, true), (18, true), (19, true)] (by kernel_rfl) (by kernel_rfl) (by kernel_rfl) (by kernel_rfl) (fun _ _ d _ _ h => by cases d <;> exact h) ?_ ?_
    · exact T
    obtain ⟨wl, hwh⟩ : ∃ x, x = w1.drew := ⟨_, rfl⟩
    rw [← hwh] at T ⊢
    clear hwh
    iterate 3
      apply mix_q rfl rfl
      · intro W hW
        have hcW := (bcell hW).1
        go_simp
        try exact rfl
      simp only [Act.put, List.setIfInBounds_toArray, List.set_cons_zero, List.set_cons_succ]
    refine mix_w rfl rfl (fun K hK => ?_)
    go_simp
    refine (edge_any n a b c _).mono ?_
    rintro e w2 ⟨rfl, hE⟩
    refine hK _ _ (T.trans (hE.mono T.size)) ?_
    clear hK K
    try simp only [Act.put, List.setIfInBounds_toArray, List.set_cons_zero, List.set_cons_succ]
    replace T := T.trans (hE.mono T.size)
    clear hE
    rw [hr]
    replace hr := hide hr
    iterate 1
      apply mix_q rfl rfl
      · intro W hW
        have hcW := (bcell hW).1
        go_simp
        try exact rfl
      simp only [Act.put, List.setIfInBounds_toArray, List.set_cons_zero, List.set_cons_succ]
    iterate 10
      refine mix_off rfl (wanted_is rfl rfl rfl rfl rfl) ?_
      simp only [Act.put, List.setIfInBounds_toArray, List.set_cons_zero, List.set_cons_succ]
    refine mix_woff rfl (wanted_is rfl rfl rfl rfl rfl) T ?_
    try simp only [Act.put, List.setIfInBounds_toArray, List.set_cons_zero, List.set_cons_succ]
    iterate 2
      refine mix_off rfl (wanted_is rfl rfl rfl rfl rfl) ?_
      simp only [Act.put, List.setIfInBounds_toArray, List.set_cons_zero, List.set_cons_succ]
    iterate 2
      apply mix_q rfl rfl
      · intro W hW
        have hcW := (bcell hW).1
        go_simp
        try exact rfl
      simp only [Act.put, List.setIfInBounds_toArray, List.set_cons_zero, List.set_cons_succ]
    refine mix_nil ?_
    go_wp2
    go_ret
    exact ⟨ret_bool hv2.out.symm, hE0.trans (T.mono hE0.size)⟩
  | true =>
    by_cases h0 : i = 0
    · have h0' : ((i : Int) == 0) = true := by simp [h0]
      have hv2 : Hid (q = true) := hide (by rw [hv.out, hr, decide_eq_true h0]; rfl)
      clear h0
      refine wp_region_mix (fun W => Below w1.heap.size w1 W) [(0, true), (1, true), (2, true), (3, false), (4, true), (5, true), (6, true), (7, true), (8, true), (9, true), (10, true), (11, true), (12, true), (13, true), (14, true), (15, false), (16, true), (17, true), (18, true), (19, true)] (by kernel_rfl) (by kernel_rfl) (by kernel_rfl) (by kernel_rfl) (fun _ _ d _ _ h => by cases d <;> exact h) ?_ ?_
      · exact T
      obtain ⟨wl, hwh⟩ : ∃ x, x = w1.drew := ⟨_, rfl⟩
      rw [← hwh] at T ⊢
      clear hwh
      iterate 3
        apply mix_q rfl rfl
        · intro W hW
          have hcW := (bcell hW).1
          go_simp
          try exact rfl
        simp only [Act.put, List.setIfInBounds_toArray, List.set_cons_zero, List.set_cons_succ]
      refine mix_w rfl rfl (fun K hK => ?_)
      go_simp
      refine (edge_any n a b c _).mono ?_
      rintro e w2 ⟨rfl, hE⟩
      refine hK _ _ (T.trans (hE.mono T.size)) ?_
      clear hK K
      try simp only [Act.put, List.setIfInBounds_toArray, List.set_cons_zero, List.set_cons_succ]
      replace T := T.trans (hE.mono T.size)
      clear hE
      rw [hr]
      replace hr := hide hr
      iterate 1
        apply mix_q rfl rfl
        · intro W hW
          have hcW := (bcell hW).1
          go_simp
          try exact rfl
        simp only [Act.put, List.setIfInBounds_toArray, List.set_cons_zero, List.set_cons_succ]
      iterate 3
        apply mix_on rfl (wanted_is rfl rfl rfl rfl rfl)
        · intro W hW
          have hcW := (bcell hW).1
          go_simp
          try exact rfl
        simp only [Act.put, List.setIfInBounds_toArray, List.set_cons_zero, List.set_cons_succ]
      iterate 7
        refine mix_off rfl (wanted_is rfl rfl rfl rfl rfl) ?_
        simp only [Act.put, List.setIfInBounds_toArray, List.set_cons_zero, List.set_cons_succ]
      refine mix_woff rfl (wanted_is rfl rfl rfl rfl rfl) T ?_
      try simp only [Act.put, List.setIfInBounds_toArray, List.set_cons_zero, List.set_cons_succ]
      iterate 1
        refine mix_off rfl (wanted_is rfl rfl rfl rfl rfl) ?_
        simp only [Act.put, List.setIfInBounds_toArray, List.set_cons_zero, List.set_cons_succ]
      iterate 1
        apply mix_on rfl (wanted_is rfl rfl rfl rfl rfl)
        · intro W hW
          have hcW := (bcell hW).1
          go_simp
          try exact rfl
        simp only [Act.put, List.setIfInBounds_toArray, List.set_cons_zero, List.set_cons_succ]
      iterate 2
        apply mix_q rfl rfl
        · intro W hW
          have hcW := (bcell hW).1
          go_simp
          try exact rfl
        simp only [Act.put, List.setIfInBounds_toArray, List.set_cons_zero, List.set_cons_succ]
      refine mix_nil ?_
      go_wp2
      go_ret
      exact ⟨ret_bool hv2.out.symm, hE0.trans (T.mono hE0.size)⟩
    · have h0' : ((i : Int) == 0) = false := by simp [h0]
      obtain ⟨b1, o1, rfl, ra⟩ := h1.out.at_ (i := i - 1) (by rw [← hm.out]; omega)
      obtain ⟨⟨p1, p2, p3⟩, hx⟩ := get_some (xs := xs) (i := i - 1) (by rw [← hm.out]; omega)
      obtain ⟨hx1, hx2, hx3⟩ := ra.edge hx
      have hb1 := ra.1
      have hv2 : Hid (q = ltE (p1, p2, p3) (a, b, c)) := hide (by rw [hv.out, hr, decide_eq_false h0, List.getD_eq_getElem?_getD, hx]; rfl)
      have hv3 : Hid (decide (cmpE (p1, p2, p3) (a, b, c) < 0) = ltE (p1, p2, p3) (a, b, c)) := hide (cmpE_lt _ _)
      have s1 : IntKind.i64.wrap ((i : Int) - 1) = (i : Int) - 1 := IntWalk.i64_in _ (by omega)
      have s2 : (0 : Int) ≤ (i : Int) - 1 := by omega
      have s3 : ((i : Int) - 1).toNat = i - 1 := by omega
      have s4 : (i : Int) - 1 < (m : Int) := by omega
      have s5 : (1 : Int) ≤ (i : Int) := by omega
      replace hx := hide hx
      replace ra := hide ra
      refine wp_region_mix (fun W => Below w1.heap.size w1 W) [(0, true), (1, true), (2, true), (3, false), (4, true), (5, true), (6, true), (7, true), (8, true), (9, true), (10, true), (11, true), (12, true), (13, true), (14, true), (15, false), (16, true), (17, true), (18, true), (19, true)] (by kernel_rfl) (by kernel_rfl) (by kernel_rfl) (by kernel_rfl) (fun _ _ d _ _ h => by cases d <;> exact h) ?_ ?_
      · exact T
      obtain ⟨wl, hwh⟩ : ∃ x, x = w1.drew := ⟨_, rfl⟩
      rw [← hwh] at T ⊢
      clear hwh
      iterate 3
        apply mix_q rfl rfl
        · intro W hW
          have hcW := (bcell hW).1
          go_simp
          try exact rfl
        simp only [Act.put, List.setIfInBounds_toArray, List.set_cons_zero, List.set_cons_succ]
      refine mix_w rfl rfl (fun K hK => ?_)
      go_simp
      refine (edge_any n a b c _).mono ?_
      rintro e w2 ⟨rfl, hE⟩
      refine hK _ _ (T.trans (hE.mono T.size)) ?_
      clear hK K
      try simp only [Act.put, List.setIfInBounds_toArray, List.set_cons_zero, List.set_cons_succ]
      replace T := T.trans (hE.mono T.size)
      clear hE
      rw [hr]
      replace hr := hide hr
      iterate 1
        apply mix_q rfl rfl
        · intro W hW
          have hcW := (bcell hW).1
          go_simp
          try exact rfl
        simp only [Act.put, List.setIfInBounds_toArray, List.set_cons_zero, List.set_cons_succ]
      iterate 10
        apply mix_on rfl (wanted_is rfl rfl rfl rfl rfl)
        · intro W hW
          have hcW := (bcell hW).1
          go_simp
          try exact rfl
        simp only [Act.put, List.setIfInBounds_toArray, List.set_cons_zero, List.set_cons_succ]
      refine mix_won rfl (wanted_is rfl rfl rfl rfl rfl) (fun K hK => ?_)
      go_simp
      refine (compare_edge p1 p2 p3 a b c _).mono ?_
      rintro e w3 ⟨rfl, hE⟩
      refine hK _ _ (T.trans (hE.mono T.size)) ?_
      clear hK K
      try simp only [Act.put, List.setIfInBounds_toArray, List.set_cons_zero, List.set_cons_succ]
      replace T := T.trans (hE.mono T.size)
      clear hE
      iterate 2
        apply mix_on rfl (wanted_is rfl rfl rfl rfl rfl)
        · intro W hW
          have hcW := (bcell hW).1
          go_simp
          try exact rfl
        simp only [Act.put, List.setIfInBounds_toArray, List.set_cons_zero, List.set_cons_succ]
      iterate 2
        apply mix_q rfl rfl
        · intro W hW
          have hcW := (bcell hW).1
          go_simp
          try exact rfl
        simp only [Act.put, List.setIfInBounds_toArray, List.set_cons_zero, List.set_cons_succ]
      refine mix_nil ?_
      go_wp2
      go_ret
      exact ⟨ret_bool (by rw [hv2.out, ← hv3.out]), hE0.trans (T.mono hE0.size)⟩
end Go.Proofs.Ytepgpiolhiidiaa
