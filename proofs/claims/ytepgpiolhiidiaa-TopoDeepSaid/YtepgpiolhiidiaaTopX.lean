/- fair, slices.Clone of numbers, wakes. -/
import Derived.Test.YtepgpiolhiidiaaTopW
import Derived.Test.YtepgpiolhiidiaaTopI
import Derived.Test.YtepgpiolhiidiaaGraW
import Derived.Test.YtepgpiolhiidiaaGraE
import Derived.Test.YtepgpiolhiidiaaGraL
import Derived.Test.YtepgpiolhiidiaaMixE
namespace Go.Proofs.Ytepgpiolhiidiaa
open Go.RowKit Go.Shelf
attribute [local go_sem] Oper.semAt_some

theorem own_emptyX {α : Type} (E : El α) (e : TypeId) {base : Nat} (w : World) (g : Nat) (hg : w.heap.size = g) (hb : base ≤ g) : Own E e base (w.alloc (.cells #[] e)) (.slice (some ⟨g, 0, none⟩) 0 0) [] := by
  subst hg
  exact ⟨by simp [El.row], .inr ⟨w.heap.size, 0, #[], rfl, hb, heap_alloc_new w _, Nat.le_refl _, Nat.zero_le _, by simp, by simp [El.row]⟩⟩
set_option maxHeartbeats 1000000 in
theorem cloneI_any (A : Option Addr) (n c : Nat) (ws : List Int) (w : World) (h : Rd intE w.heap.size w A ws) (hn : n = ws.length) (hl : n ≤ 1000000) :
    Calls Try.prog 10 #[.slice A n c] w fun e w' => ∃ v, e = .returned v ∧ Own intE 3 w.heap.size w' v ws ∧ Ext w w' := by
  have hE0 : Ext w (w.alloc (.cells #[] 3)) := (Below.refl _ _).alloc (Nat.le_refl _) _
  have hO := hide (own_emptyX (base := w.heap.size) intE 3 w w.heap.size rfl (Nat.le_refl _))
  have h1 := hide (h.ext hE0)
  have hn' := hide hn
  have q : ∀ (w : World) (a : Option Addr) (n c n' c' : Nat), (binOp .eql 28 (.slice a n c) (.slice none n' c')).run Try.prog w = .ok (.bool a.isNone) w := fun w a n c n' c' => Lib.run_eql_slice_nil w _ _ a n c n' c' tyInt.und
  cases A with
  | none =>
    have hx : ws = [] := by
      rcases h with h | ⟨_, _, h, _⟩
      · exact h
      · cases h
    subst hx
    have hx0 : n = 0 := hn
    subst hx0
    clear hO h1 h hn hn'
    go_enter Try.func10, Try.ntmps10
    go_wp2
    go_ret
    exact ⟨_, rfl, Own.nil_, Below.refl _ _⟩
  | some a =>
    replace h := hide h
    clear hn
    go_enter Try.func10, Try.ntmps10
    go_wp2_with (at_builtin; refine wpList_app tyInt rfl (.tmp 5) (.tmp 6) rfl rfl hO.out rfl h1.out hn'.out (by have := hn'.out; simp; omega) (by simp) ?_)
    intro v' w' hO2 hg hne hnil
    have hB : Ext w w' := Own.below hO.out hE0 hg (by simp)
    replace hO2 := hide hO2
    clear hg hne hnil hO h1
    obtain ⟨A2, c2, rfl, -, -, -⟩ := hO2.out.rd
    go_wp2
    go_ret
    exact ⟨_, rfl, by simpa using hO2.out, hB⟩
set_option maxHeartbeats 2000000 in
theorem fair_any (n : Int) (A : Option Addr) (m c : Nat) (xs : List (Int × Int × Int)) (w : World) (h : Rd edgeE w.heap.size w A xs) (hm : m = xs.length) (hmc : m ≤ c) :
    Calls Try.prog 9 #[.agg #[.int .i64 n, .slice A m c]] w fun e w' => ∃ v, e = .returned (.agg #[.int .i64 n, v]) ∧ Own edgeE 50 w.heap.size w' v (xs.take 60) ∧ Ext w w' := by
  replace h := hide h
  obtain ⟨k, hk⟩ : ∃ k, k = (xs.take 60).length := ⟨_, rfl⟩
  have hkm : k ≤ m ∧ k ≤ 60 ∧ k ≤ c := by rw [hk, List.length_take]; omega
  have hmin : Hid (min (m : Int) 60 = (k : Int)) := hide (by rw [hk, List.length_take]; omega)
  replace hk := hide hk
  replace hm := hide hm
  obtain ⟨hk1, hk2, hk3⟩ := hkm
  go_enter Try.func9, Try.ntmps9
  go_upto_region 1 with fail
  obtain ⟨w0, hw0⟩ : ∃ w0, w0 = (w.alloc (.cells #[.int .i64 n, .slice A m c] 24)).alloc (.cells #[.int .i64 0, .slice none 0 0] 24) := ⟨_, rfl⟩
  rw [← hw0]
  have E : Ext w w0 := by rw [hw0]; exact ((Below.refl _ _).alloc (Nat.le_refl _) _).alloc (by simp) _
  have X1 : BoxG w0 w.heap.size n A m c := by rw [hw0]; exact (BoxN.new w _ _).alloc _
  have X2 : BoxG w0 (w.heap.size + 1) 0 none 0 0 := by
    rw [hw0]
    have := BoxN.new (w.alloc (.cells #[.int .i64 n, .slice A m c] 24)) 24 #[.int .i64 0, .slice none 0 0]
    rw [World.size_alloc] at this
    exact this
  clear hw0
  obtain ⟨p1, hp1⟩ : ∃ b, b = w.heap.size := ⟨_, rfl⟩
  rw [← hp1] at X1 X2 ⊢
  obtain ⟨p2, hp2⟩ : ∃ b, b = p1 + 1 := ⟨_, rfl⟩
  rw [← hp2] at X2 ⊢
  have hle : w.heap.size ≤ p2 := by omega
  clear hp1 hp2
  have k0 := X1.cell 0 (v := .int .i64 n) rfl
  have k1 := X1.cell 1 (v := .slice A m c) rfl
  have s1 := X1.lt
  have T : Ext w0 w0.drew := (Below.refl _ _).drew
  refine wp_region_mixE (fun W => Below w0.heap.size w0 W) 11 [(0, true), (1, true), (2, true), (3, true), (4, true), (5, true), (6, true), (7, true), (8, true), (9, false), (10, true), (11, false)] (by kernel_rfl) (by kernel_rfl) (by kernel_rfl) (by kernel_rfl) (by kernel_rfl) (by kernel_rfl) (fun _ _ d _ _ h => by cases d <;> exact h) ?_ ?_
  · exact T
  obtain ⟨wl, hwh⟩ : ∃ x, x = w0.drew := ⟨_, rfl⟩
  rw [← hwh] at T ⊢
  clear hwh
  have f1 : (k : Int) ≤ (c : Int) := by omega
  have f0 : (0 : Int) ≤ (k : Int) := by omega
  iterate 7
    apply mixE_q rfl rfl
    · intro W hW
      have hcW := (bcell hW).1
      go_simp
      try exact rfl
    simp only [Act.put, List.setIfInBounds_toArray, List.set_cons_zero, List.set_cons_succ]
  refine mixE_q (v := .int .i64 (k : Int)) rfl rfl (fun W hW => ?_) ?_
  · go_simp
    exact hmin.out
  try simp only [Act.put, List.setIfInBounds_toArray, List.set_cons_zero, List.set_cons_succ]
  iterate 1
    apply mixE_q rfl rfl
    · intro W hW
      have hcW := (bcell hW).1
      go_simp
      try exact rfl
    simp only [Act.put, List.setIfInBounds_toArray, List.set_cons_zero, List.set_cons_succ]
  refine mixE_w rfl rfl (fun K hK => ?_)
  go_simp
  refine (clone_Edge A k c (xs.take 60) _ hk.out ((h.out.take 60).ext (E.trans (T.mono E.size))) (by omega)).mono ?_
  rintro e w1 ⟨v, rfl, hO, hE⟩
  replace hO := hO.base_le (Nat.le_trans E.size T.size)
  replace T := T.trans (hE.mono T.size)
  refine hK _ _ (fun _ => T) ?_
  clear hK K hE
  try simp only [Act.put, List.setIfInBounds_toArray, List.set_cons_zero, List.set_cons_succ]
  obtain ⟨A2, c2, rfl, -, -, -⟩ := hO.rd
  obtain ⟨l, hll⟩ : ∃ l, l = (xs.take 60).length := ⟨_, rfl⟩
  rw [← hll] at hO ⊢
  replace hll := hide hll
  iterate 1
    apply mixE_q rfl rfl
    · intro W hW
      have hcW := (bcell hW).1
      go_simp
      try exact rfl
    simp only [Act.put, List.setIfInBounds_toArray, List.set_cons_zero, List.set_cons_succ]
  replace X2 := X2.ext T
  have f0 := X2.free 0
  have f1 := X2.free 1
  have q0 := X2.cell 0 (v := .int .i64 0) rfl
  have q1 := X2.cell 1 (v := .slice none 0 0) rfl
  have s2 := X2.lt
  clear k0 k1 s1 X1
  refine mixE_w rfl rfl (fun K hK => ?_)
  go_simp
  refine hK _ _ (fun h => absurd rfl h) ?_
  clear hK K
  try simp only [Act.put, List.setIfInBounds_toArray, List.set_cons_zero, List.set_cons_succ]
  refine mixE_nil ?_
  have R : Ext w w1 := E.trans (T.mono E.size)
  have O2 := hide ((hO.setN X2 (by decide) 0 (.int .i64 n)).setN (X2.set 0 (.int .i64 n)) (by decide) 1 (.slice A2 l c2))
  have Y2 := hide ((X2.set 0 (.int .i64 n)).set 1 (.slice A2 l c2))
  have E2 := hide ((R.setCell (p := ⟨p2, 0, none⟩) hle (.int .i64 n)).setCell (p := ⟨p2, 1, none⟩) hle (.slice A2 l c2))
  go_wp2
  refine bodyPost_ret (results_cell_row rfl _ _ p2 24 #[.int .i64 n, .slice A2 l c2] _ _ rfl Y2.out Try.underlying24 rfl (by kernel_rfl)) rfl ?_
  exact ⟨_, rfl, O2.out, E2.out⟩
/-- the graph of wakes -/
def wakeL : List (Int × Int × Int) := [(2, 0, 0), (3, 1, 0)]
theorem wake_right : rightG 4 wakeL = true := by decide +kernel
theorem wake_ordB : ordB 4 wakeL = true := by decide +kernel
theorem wake_ordL : ordL 4 wakeL = [2, 0, 3, 1] := by decide +kernel
theorem wake_depL : depL 4 wakeL = [1, 1, 0, 0] := by decide +kernel
theorem wake_topR : topR 4 wakeL [2, 0, 3, 1] = true := by decide +kernel
set_option maxRecDepth 100000 in
set_option maxHeartbeats 4000000 in
theorem wakes_any (w : World) : Calls Try.prog 8 #[] w fun e w' => e = .returned (.bool true) ∧ Ext w w' := by
  go_enter Try.func8, Try.ntmps8
  go_upto_region 2 with fail
  obtain ⟨w0, hw0⟩ : ∃ q, q = w.alloc (.cells #[.int .i64 2, .int .i64 0, .int .i64 0, .int .i64 3, .int .i64 1, .int .i64 0] 50) := ⟨_, rfl⟩
  have hO0 : Own edgeE 50 w.heap.size w0 (.slice (some ⟨w.heap.size, 0, none⟩) 2 2) wakeL := by rw [hw0]; exact own_made edgeE 50 w wakeL w.heap.size rfl (Nat.le_refl _) (by simp [maxLen, wakeL])
  have hE0 : Ext w w0 := by rw [hw0]; exact (Below.refl _ _).alloc (Nat.le_refl _) _
  have hs0 : w0.heap.size = w.heap.size + 1 := by rw [hw0, World.size_alloc]
  rw [← hw0, ← hs0]
  obtain ⟨pE, hpE⟩ : ∃ q, q = w.heap.size := ⟨_, rfl⟩
  rw [← hpE] at hO0 ⊢
  clear hw0 hs0 hpE
  obtain ⟨w1, hw1⟩ : ∃ q, q = w0.alloc (.cells #[.int .i64 4, .slice (some ⟨pE, 0, none⟩) 2 2] 24) := ⟨_, rfl⟩
  have hE1 : Ext w0 w1 := by rw [hw1]; exact (Below.refl _ _).alloc (Nat.le_refl _) _
  have X1 : BoxN w1 w0.heap.size 24 #[.int .i64 4, .slice (some ⟨pE, 0, none⟩) 2 2] := by rw [hw1]; exact BoxN.new _ _ _
  have r1 := hide (rdO (hO0.ext hE1))
  rw [← hw1]
  obtain ⟨pg, hpg⟩ : ∃ q, q = w0.heap.size := ⟨_, rfl⟩
  rw [← hpg] at X1 ⊢
  have hB := hE0.trans (hE1.mono hE0.size)
  clear hw1 hpg hO0 hE0 hE1
  obtain ⟨gl, hgl⟩ : ∃ l, l = wakeL := ⟨_, rfl⟩
  rw [← hgl] at r1
  have hl2 : 2 = gl.length := by rw [hgl]; rfl
  have q1 := wake_right
  have q2 := wake_ordB
  have q3 := wake_ordL
  have q4 := wake_depL
  have q5 := wake_topR
  rw [← hgl] at q1 q2 q3 q4 q5
  replace q1 := chkG_yes q1
  replace hgl := hide hgl
  replace hl2 := hide hl2
  replace q1 := hide q1
  replace q2 := hide q2
  replace q3 := hide q3
  replace q4 := hide q4
  replace q5 := hide q5
  have T : Ext w1 w1 := Below.refl _ _
  have k10 := (X1.ext T).cell 0 (v := .int .i64 4) rfl
  have k11 := (X1.ext T).cell 1 rfl
  have s1 := (X1.ext T).lt
  go_wp2_with fail
  refine (order_any 4 (some ⟨pE, 0, none⟩) 2 2 gl _ (r1.out.ext T) hl2.out (by decide) (by decide)).mono ?_
  rintro e w2 ⟨v, rfl, hO, hE⟩
  rw [q1.out, q2.out]
  rw [q3.out] at hO
  obtain ⟨A2, c2, rfl, -, -, -⟩ := hO.rd
  rw [show ([2, 0, 3, 1] : List Int).length = 4 from rfl] at hO ⊢
  have r2 := hide (rdO hO)
  replace T := T.trans (hE.mono T.size)
  obtain ⟨ol, hol⟩ : ∃ l : List Int, l = [2, 0, 3, 1] := ⟨_, rfl⟩
  rw [← hol] at r2 q5
  have hl4 : 4 = ol.length := by rw [hol]; rfl
  replace hol := hide hol
  replace hl4 := hide hl4
  clear hE hO k10 k11 s1
  have k10 := (X1.ext T).cell 0 (v := .int .i64 4) rfl
  have k11 := (X1.ext T).cell 1 rfl
  have s1 := (X1.ext T).lt
  go_wp2_with fail
  refine (depth_any 4 (some ⟨pE, 0, none⟩) 2 2 gl _ (r1.out.ext T) hl2.out (by decide) (by decide)).mono ?_
  rintro e w3 ⟨v, rfl, hO, hE⟩
  rw [q1.out, q2.out]
  rw [q4.out] at hO
  obtain ⟨A3, c3, rfl, -, -, -⟩ := hO.rd
  rw [show ([1, 1, 0, 0] : List Int).length = 4 from rfl] at hO ⊢
  have r3 := hide (rdO hO)
  replace r2 := hide (r2.out.ext hE)
  replace T := T.trans (hE.mono T.size)
  clear hE hO k10 k11 s1
  obtain ⟨w4, hw4⟩ : ∃ q, q = w3.alloc (.cells #[.int .i64 2, .int .i64 0, .int .i64 3, .int .i64 1] 3) := ⟨_, rfl⟩
  have hE4 : Ext w3 w4 := by rw [hw4]; exact (Below.refl _ _).alloc (Nat.le_refl _) _
  have r4 : Rd intE w4.heap.size w4 (some ⟨w3.heap.size, 0, none⟩) ol := by
    rw [hol.out, hw4]
    exact rdO (own_made intE 3 w3 [2, 0, 3, 1] w3.heap.size rfl (Nat.le_refl _) (by simp [maxLen]))
  have hq1 := equalI_any A2 (some ⟨w3.heap.size, 0, none⟩) 4 c2 4 4 ol ol w4 (r2.out.ext hE4) r4 hl4.out hl4.out (by decide)
  rw [show decide (ol = ol) = true from decide_eq_true rfl, hw4] at hq1
  replace hq1 := hide hq1
  go_wp2_with fail
  refine hq1.out.mono ?_
  rintro e w5 ⟨rfl, hE⟩
  rw [← hw4] at hE
  replace hE := hE4.trans (hE.mono hE4.size)
  replace r2 := hide (r2.out.ext hE)
  replace r3 := hide (r3.out.ext hE)
  replace T := T.trans (hE.mono T.size)
  clear hE hq1 hw4 hE4 r4
  obtain ⟨w6, hw6⟩ : ∃ q, q = w5.alloc (.cells #[.int .i64 1, .int .i64 1, .int .i64 0, .int .i64 0] 3) := ⟨_, rfl⟩
  have hE6 : Ext w5 w6 := by rw [hw6]; exact (Below.refl _ _).alloc (Nat.le_refl _) _
  have r6 : Rd intE w6.heap.size w6 (some ⟨w5.heap.size, 0, none⟩) [1, 1, 0, 0] := by
    rw [hw6]
    exact rdO (own_made intE 3 w5 [1, 1, 0, 0] w5.heap.size rfl (Nat.le_refl _) (by simp [maxLen]))
  have hq2 := equalI_any A3 (some ⟨w5.heap.size, 0, none⟩) 4 c3 4 4 [1, 1, 0, 0] [1, 1, 0, 0] w6 (r3.out.ext hE6) r6 rfl rfl (by decide)
  rw [show decide (([1, 1, 0, 0] : List Int) = [1, 1, 0, 0]) = true from rfl, hw6] at hq2
  replace hq2 := hide hq2
  go_wp2_with fail
  refine hq2.out.mono ?_
  rintro e w7 ⟨rfl, hE⟩
  rw [← hw6] at hE
  replace hE := hE6.trans (hE.mono hE6.size)
  replace r2 := hide (r2.out.ext hE)
  replace T := T.trans (hE.mono T.size)
  clear hE hq2 hw6 hE6 r6 r3
  have k10 := (X1.ext T).cell 0 (v := .int .i64 4) rfl
  have k11 := (X1.ext T).cell 1 rfl
  have s1 := (X1.ext T).lt
  go_wp2_with fail
  refine (right_any 4 (some ⟨pE, 0, none⟩) 2 2 gl A2 4 c2 ol _ (r1.out.ext T) hl2.out (by decide) r2.out hl4.out).mono ?_
  rintro e w8 ⟨rfl, hE⟩
  rw [q5.out]
  have hfin := hide (hB.trans ((T.trans (hE.mono T.size)).mono hB.size))
  clear k10 k11 s1 hE T
  go_wp2
  go_ret
  exact ⟨rfl, hfin.out⟩
end Go.Proofs.Ytepgpiolhiidiaa
