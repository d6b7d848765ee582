/- slices.Collect over graph.edges; In, Filter. -/
import Derived.Test.YtoihankkldafoaaGraO
namespace Go.Proofs.Ytoihankkldafoaa
open Go.RowKit Go.Shelf

set_option maxHeartbeats 1000000 in
theorem collect_any (gB fB : Nat) (A : Option Addr) (m c : Nat) (xs : List (Int × Int × Int)) (hm : m = xs.length) (hl : m ≤ 1000000) (hf : FuncId) (cb : Array Value) (p : Int × Int × Int → Bool) (w : World)
    (hg : w.cell? ⟨gB, 1, none⟩ = some (.slice A m c)) (hfc : w.cell? ⟨fB, 0, none⟩ = some (.func (.func hf) #[] cb)) (hr : Rd edgeE w.heap.size w A xs) (hH : HoldP hf cb xs p w) :
    Calls Try.prog 52 #[.func (.func 61) #[] #[.pointer (some ⟨gB, 0, none⟩), .pointer (some ⟨fB, 0, none⟩)]] w fun e w' => ∃ v, e = .returned v ∧ Own edgeE 35 w.heap.size w' v (xs.filter p) ∧ Ext w w' := by
  have hs := hide (appendSeq_any gB fB A m c xs hm hl hf cb p w hg hfc hr hH)
  clear hg hfc hr hH
  go_enter Try.func52, Try.ntmps52
  go_wp2_with fail
  refine hs.out.mono ?_
  rintro e w3 ⟨v, rfl, hO, hE⟩
  clear hs
  obtain ⟨A3, c3, rfl, -, -, -⟩ := hO.rd
  replace hO := hide hO
  go_wp2
  go_ret
  exact ⟨_, rfl, hO.out, hE⟩
/-- edges told, collected: from a world in which the graph is read -/
theorem edges_new (n : Int) (A : Option Addr) (m c : Nat) (hf : FuncId) (cb : Array Value) (w w' : World) (h : w' = (w.alloc (.cells #[.int .i64 n, .slice A m c] 24)).alloc (.cells #[.func (.func hf) #[] cb] 54)) :
    Ext w w' ∧ w'.cell? ⟨w.heap.size, 1, none⟩ = some (.slice A m c) ∧ w'.cell? ⟨w.heap.size + 1, 0, none⟩ = some (.func (.func hf) #[] cb) := by
  subst h
  refine ⟨((Below.refl _ _).alloc (Nat.le_refl _) _).alloc (by simp) _, ?_, ?_⟩
  · exact ((BoxN.new w 24 #[.int .i64 n, .slice A m c]).alloc _).cell 1 rfl
  · have := BoxN.new (w.alloc (.cells #[.int .i64 n, .slice A m c] 24)) 54 #[.func (.func hf) #[] cb]
    rw [World.size_alloc] at this
    exact this.cell 0 rfl
theorem beq_dec (a b : Int) : (a == b) = decide (a = b) := by by_cases h : a = b <;> simp [h]
set_option maxHeartbeats 1000000 in
theorem inFun_any (v a b c : Int) (g : Nat) (w : World) (hb : g < w.heap.size) (hc : w.cell? ⟨g, 0, none⟩ = some (.int .i64 v)) :
    Calls Try.prog 53 #[.agg #[.int .i64 a, .int .i64 b, .int .i64 c], .pointer (some ⟨g, 0, none⟩)] w fun e w' => e = .returned (.bool (decide (b = v))) ∧ Ext w w' := by
  rw [← beq_dec]
  go_enter Try.func53, Try.ntmps53
  go_upto_region 1 with fail
  obtain ⟨w1, hw1⟩ : ∃ x, x = w.alloc (.cells #[.int .i64 a, .int .i64 b, .int .i64 c] 35) := ⟨_, rfl⟩
  rw [← hw1]
  have hE : Ext w w1 := by rw [hw1]; exact (Below.refl _ _).alloc (Nat.le_refl _) _
  have X6 : BoxN w1 w.heap.size 35 #[.int .i64 a, .int .i64 b, .int .i64 c] := by rw [hw1]; exact BoxN.new _ _ _
  clear hw1
  have hc' := below_cell hE hb hc
  have hb' := Nat.lt_of_lt_of_le hb hE.size
  obtain ⟨p6, hp6⟩ : ∃ b, b = w.heap.size := ⟨_, rfl⟩
  rw [← hp6] at X6 ⊢
  clear hp6
  have k61 := X6.cell 1 (v := .int .i64 b) rfl
  have s6 := X6.lt
  go_wp2
  go_ret
  exact ⟨rfl, hE⟩
theorem enter_in (args : Array Value) (w : World) : (callFunc 53 args).run Try.prog w = .ok (.enter 53 args) w := enters_of Try.func53 (by kernel_rfl) rfl args w
def inL (n : Int) (xs : List (Int × Int × Int)) (v : Int) : List (Int × Int × Int) := if askE n xs [v] = 0 then xs.filter (fun x => decide (x.2.1 = v)) else []
set_option maxHeartbeats 2000000 in
theorem in_any (n v : Int) (A : Option Addr) (m c : Nat) (xs : List (Int × Int × Int)) (w : World) (h : Rd edgeE w.heap.size w A xs) (hm : m = xs.length) (hl : m ≤ 1000000) :
    Calls Try.prog 24 #[.agg #[.int .i64 n, .slice A m c], .int .i64 v] w fun e w' => ∃ u, e = .returned (.tuple #[u, .int .i64 (askE n xs [v])]) ∧ Own edgeE 35 w.heap.size w' u (inL n xs v) ∧ Ext w w' := by
  obtain ⟨q, hq⟩ : ∃ q, q = askE n xs [v] := ⟨_, rfl⟩
  obtain ⟨ol, hol⟩ : ∃ q, q = inL n xs v := ⟨_, rfl⟩
  rw [← hq, ← hol]
  replace h := hide h
  replace hm := hide hm
  replace hol := hide hol
  go_enter Try.func24, Try.ntmps24
  go_upto_region 1 with fail
  obtain ⟨w0, hw0⟩ : ∃ w0, w0 = (w.alloc (.cells #[.int .i64 n, .slice A m c] 24)).alloc (.cells #[.int .i64 v] 3) := ⟨_, rfl⟩
  rw [← hw0]
  have hE0 : Ext w w0 := by rw [hw0]; exact ((Below.refl _ _).alloc (Nat.le_refl _) _).alloc (by simp) _
  have X1 : BoxG w0 w.heap.size n A m c := by rw [hw0]; exact (BoxN.new w _ _).alloc _
  have X3 : BoxN w0 (w.heap.size + 1) 3 #[.int .i64 v] := by
    rw [hw0]
    have := BoxN.new (w.alloc (.cells #[.int .i64 n, .slice A m c] 24)) 3 #[.int .i64 v]
    rw [World.size_alloc] at this
    exact this
  clear hw0
  obtain ⟨pg, hpg⟩ : ∃ b, b = w.heap.size := ⟨_, rfl⟩
  rw [← hpg] at X1 X3 ⊢
  obtain ⟨p3, hp3⟩ : ∃ b, b = pg + 1 := ⟨_, rfl⟩
  rw [← hp3] at X3 ⊢
  clear hpg hp3
  have k10 := X1.cell 0 (v := .int .i64 n) rfl
  have k11 := X1.cell 1 (v := .slice A m c) rfl
  have s1 := X1.lt
  have k3 := X3.cell 0 (v := .int .i64 v) rfl
  have s3 := X3.lt
  have hr1 := hide (rd_newAt (e := 3) intE w0 v w0.heap.size rfl)
  have hE1 : Ext w0 (w0.alloc (.cells (intE.cs v).toArray 3)) := (Below.refl _ _).alloc (Nat.le_refl _) _
  have hA := hide (asked_any n A m c xs (some ⟨w0.heap.size, 0, none⟩) 1 1 [v] (w0.alloc (.cells (intE.cs v).toArray 3)) ((h.out.ext hE0).ext hE1) hm.out hl (by have := hr1.out; rw [show (w0.alloc (.cells (intE.cs v).toArray 3)).heap.size = w0.heap.size + 1 by simp]; exact this) rfl (by decide))
  rw [← hq] at hA
  replace hq := hide hq
  clear hr1
  go_wp2_with fail
  refine hA.out.mono ?_
  rintro e w1 ⟨rfl, hE⟩
  have hB := hE0.trans ((hE1.trans (hE.mono hE1.size)).mono hE0.size)
  replace X1 := (X1.ext hE1).ext hE
  replace X3 := (X3.ext hE1).ext hE
  clear hA hE1 hE k10 k11 s1 k3 s3 hE0
  have k10 := X1.cell 0 (v := .int .i64 n) rfl
  have k11 := X1.cell 1 (v := .slice A m c) rfl
  have s1 := X1.lt
  by_cases hz : q = 0
  · subst hz
    have hv : Hid (ol = xs.filter fun x => decide (x.2.1 = v)) := hide (by rw [hol.out]; unfold inL; rw [if_pos hq.out.symm])
    go_wp2_with fail
    refine (edges_any n A m c 53 #[.pointer (some ⟨p3, 0, none⟩)] _).mono ?_
    rintro e w2 ⟨rfl, hw2⟩
    obtain ⟨hE2, g1, g2⟩ := edges_new n A m c _ _ _ _ hw2
    replace hB := hB.trans (hE2.mono hB.size)
    replace X3 := X3.ext hE2
    clear hw2 k10 k11 s1 hE2 X1
    go_wp2_with fail
    have hR := h.out.ext hB
    refine (collect_any _ _ A m c xs hm.out hl _ _ (fun x => decide (x.2.1 = v)) _ g1 g2 hR ⟨enter_in, ?_⟩).mono ?_
    · intro a b d W _ hW
      exact inFun_any v a b d p3 W (Nat.lt_of_lt_of_le X3.lt hW.size) ((X3.ext hW).cell 0 rfl)
    rintro e w3 ⟨u, rfl, hO, hE⟩
    replace hO := hide (hO.base_le hB.size)
    replace hB := hB.trans (hE.mono hB.size)
    obtain ⟨A3, c3, rfl, -, -, -⟩ := hO.out.rd
    clear g1 g2 hE X3 hR
    go_wp2
    go_ret2
    exact ⟨_, rfl, by rw [hv.out]; exact hO.out, hB⟩
  · have hz' : (q != 0) = true := by simp [hz]
    have hv : Hid (ol = []) := hide (by rw [hol.out]; unfold inL; rw [if_neg (by rw [← hq.out]; exact hz)])
    go_wp2
    go_ret2
    exact ⟨.slice none 0 0, rfl, by rw [hv.out]; exact Own.nil_, hB⟩
/-! ### Filter -/
def gN (n : Int) (xs : List (Int × Int × Int)) : Int := if rightG n xs = true then n else 0
def gL (n : Int) (xs l : List (Int × Int × Int)) : List (Int × Int × Int) := if rightG n xs = true then l else []
theorem g_no {n : Int} {xs l : List (Int × Int × Int)} (h : rightG n xs = false) : gN n xs = 0 ∧ chkG n xs = 150 ∧ gL n xs l = [] := by unfold gN chkG gL; simp [h]
theorem g_yes {n : Int} {xs l : List (Int × Int × Int)} (h : rightG n xs = true) : gN n xs = n ∧ chkG n xs = 0 ∧ gL n xs l = l := by unfold gN chkG gL; simp [h]
set_option maxHeartbeats 4000000 in
theorem filter_any (n : Int) (A : Option Addr) (m c : Nat) (xs : List (Int × Int × Int)) (hf : FuncId) (cb : Array Value) (p : Int × Int × Int → Bool) (w : World) (h : Rd edgeE w.heap.size w A xs) (hm : m = xs.length) (hl : m ≤ 1000000) (hH : HoldP hf cb xs p w) :
    Calls Try.prog 30 #[.agg #[.int .i64 n, .slice A m c], .func (.func hf) #[] cb] w fun e w' => ∃ v, e = .returned (.tuple #[.agg #[.int .i64 (gN n xs), v], .int .i64 (chkG n xs)]) ∧ Own edgeE 35 w.heap.size w' v (gL n xs (xs.filter p)) ∧ Ext w w' := by
  obtain ⟨y1, hy1⟩ : ∃ q, q = gN n xs := ⟨_, rfl⟩
  obtain ⟨y2, hy2⟩ : ∃ q, q = chkG n xs := ⟨_, rfl⟩
  obtain ⟨y3, hy3⟩ : ∃ q, q = gL n xs (xs.filter p) := ⟨_, rfl⟩
  rw [← hy1, ← hy2, ← hy3]
  replace hy1 := hide hy1
  replace hy2 := hide hy2
  replace hy3 := hide hy3
  replace h := hide h
  replace hm := hide hm
  replace hH := hide hH
  go_enter Try.func30, Try.ntmps30
  go_upto_region 1 with fail
  obtain ⟨w0, hw0⟩ : ∃ w0, w0 = (w.alloc (.cells #[.int .i64 n, .slice A m c] 24)).alloc (.cells #[.int .i64 0, .slice none 0 0] 24) := ⟨_, rfl⟩
  rw [← hw0]
  have hE0 : Ext w w0 := by rw [hw0]; exact ((Below.refl _ _).alloc (Nat.le_refl _) _).alloc (by simp) _
  have X2 : BoxN w0 w.heap.size 24 #[.int .i64 n, .slice A m c] := by rw [hw0]; exact (BoxN.new w _ _).alloc _
  have X4 : BoxN w0 (w.heap.size + 1) 24 #[.int .i64 0, .slice none 0 0] := by
    rw [hw0]
    have := BoxN.new (w.alloc (.cells #[.int .i64 n, .slice A m c] 24)) 24 #[.int .i64 0, .slice none 0 0]
    rw [World.size_alloc] at this
    exact this
  clear hw0
  obtain ⟨p2, hpa⟩ : ∃ b, b = w.heap.size := ⟨_, rfl⟩
  rw [← hpa] at X2 X4 ⊢
  obtain ⟨p4, hpb⟩ : ∃ b, b = p2 + 1 := ⟨_, rfl⟩
  rw [← hpb] at X4 ⊢
  have hle1 : w.heap.size ≤ p2 := by omega
  have hle2 : w.heap.size ≤ p4 := by omega
  have hne12 : p2 < p4 := by omega
  clear hpa hpb
  have k20 := X2.cell 0 (v := .int .i64 n) rfl
  have k21 := X2.cell 1 (v := .slice A m c) rfl
  have s2 := X2.lt
  go_wp2_with fail
  refine (check_any n A m c xs _ (h.out.ext hE0) hm.out hl).mono ?_
  rintro e w1 ⟨rfl, hE⟩
  replace X2 := X2.ext hE
  replace X4 := X4.ext hE
  have hB := hE0.trans (hE.mono hE0.size)
  clear k20 k21 s2 hE hE0
  cases hr : rightG n xs with
  | false =>
    obtain ⟨v1, v2, v3⟩ := g_no (l := xs.filter p) hr
    rw [v2]
    rw [← hy1.out] at v1
    rw [← hy2.out] at v2
    rw [← hy3.out] at v3
    replace v1 := hide v1
    replace v2 := hide v2
    replace v3 := hide v3
    replace hr := hide hr
    have f0 := X4.free 0
    have f1 := X4.free 1
    have k0 := X4.cell 0 (v := .int .i64 0) rfl
    have k1 := X4.cell 1 (v := .slice none 0 0) rfl
    have s4 := X4.lt
    go_wp2
    refine bodyPost_ret (results_cell_one rfl _ _ p4 24 #[.int .i64 0, .slice none 0 0] _ _ rfl ((X4.set 0 (.int .i64 0)).set 1 (.slice none 0 0)) Try.underlying24 rfl (by kernel_rfl)) rfl ?_
    exact ⟨_, by rw [v1.out, v2.out]; rfl, by rw [v3.out]; exact Own.nil_, (hB.setCell (p := ⟨p4, 0, none⟩) hle2 _).setCell (p := ⟨p4, 1, none⟩) hle2 _⟩
  | true =>
    obtain ⟨v1, v2, v3⟩ := g_yes (l := xs.filter p) hr
    rw [v2]
    rw [← hy1.out] at v1
    rw [← hy2.out] at v2
    rw [← hy3.out] at v3
    replace v1 := hide v1
    replace v2 := hide v2
    replace v3 := hide v3
    replace hr := hide hr
    have k20 := X2.cell 0 (v := .int .i64 n) rfl
    have k21 := X2.cell 1 (v := .slice A m c) rfl
    have s2 := X2.lt
    have s4 := X4.lt
    go_upto_region 4 with fail
    have T : Below p4 w1 w1.drew := (Below.refl _ _).drew
    refine wp_region_mix (fun W => Below p4 w1 W) [(0, true), (1, true), (2, true), (3, true), (4, false), (5, false), (6, true), (7, false), (8, true)] (by kernel_rfl) (by kernel_rfl) (by kernel_rfl) (by kernel_rfl) (fun _ _ d _ _ h => by cases d <;> exact h) ?_ ?_
    · exact T
    have E : Ext w1 w1.drew := (Below.refl _ _).drew
    obtain ⟨wl, hwh⟩ : ∃ x, x = w1.drew := ⟨_, rfl⟩
    rw [← hwh] at T E ⊢
    clear hwh
    iterate 4
      apply mix_q rfl rfl
      · intro W hW
        have hcW := (bcell hW).1
        go_simp
        try exact rfl
      simp only [Act.put, List.setIfInBounds_toArray, List.set_cons_zero, List.set_cons_succ]
    refine mix_w rfl rfl (fun K hK => ?_)
    go_simp
    refine (edges_any n A m c hf cb _).mono ?_
    rintro e w2 ⟨rfl, hw2⟩
    obtain ⟨hE2, g1, g2⟩ := edges_new n A m c _ _ _ _ hw2
    replace E := E.trans (hE2.mono E.size)
    replace T := E.mono (Nat.le_of_lt s4)
    refine hK _ _ T ?_
    clear hK K hw2 hE2
    try simp only [Act.put, List.setIfInBounds_toArray, List.set_cons_zero, List.set_cons_succ]
    refine mix_w rfl rfl (fun K hK => ?_)
    go_simp
    have hB2 := hB.trans (E.mono hB.size)
    refine (collect_any _ _ A m c xs hm.out hl hf cb p _ g1 g2 (h.out.ext hB2) ⟨hH.out.1, fun a b d W hx hW => hH.out.2 a b d W hx (hB2.trans (hW.mono hB2.size))⟩).mono ?_
    rintro e w3 ⟨u, rfl, hO, hE⟩
    replace hO := hO.base_le hB2.size
    replace E := E.trans (hE.mono E.size)
    replace T := E.mono (Nat.le_of_lt s4)
    refine hK _ _ T ?_
    clear hK K hE g1 g2 hB2
    try simp only [Act.put, List.setIfInBounds_toArray, List.set_cons_zero, List.set_cons_succ]
    obtain ⟨A3, c3, rfl, -, -, -⟩ := hO.rd
    obtain ⟨l3, hl3⟩ : ∃ l, l = (xs.filter p).length := ⟨_, rfl⟩
    rw [← hl3] at hO ⊢
    replace hl3 := hide hl3
    iterate 1
      apply mix_q rfl rfl
      · intro W hW
        have hcW := (bcell hW).1
        go_simp
        try exact rfl
      simp only [Act.put, List.setIfInBounds_toArray, List.set_cons_zero, List.set_cons_succ]
    clear k20 k21 s2 s4
    replace X4 := X4.ext E
    replace hB := hB.trans (E.mono hB.size)
    have f0 := X4.free 0
    have f1 := X4.free 1
    have k0 := X4.cell 0 (v := .int .i64 0) rfl
    have k1 := X4.cell 1 (v := .slice none 0 0) rfl
    have s4 := X4.lt
    refine mix_w rfl rfl (fun K hK => ?_)
    go_simp
    refine hK _ _ ((T.setCell (p := ⟨p4, 0, none⟩) (Nat.le_refl _) _).setCell (p := ⟨p4, 1, none⟩) (Nat.le_refl _) _) ?_
    clear hK K
    try simp only [Act.put, List.setIfInBounds_toArray, List.set_cons_zero, List.set_cons_succ]
    iterate 1
      apply mix_q rfl rfl
      · intro W hW
        have hcW := (bcell hW).1
        go_simp
        try exact rfl
      simp only [Act.put, List.setIfInBounds_toArray, List.set_cons_zero, List.set_cons_succ]
    refine mix_nil ?_
    have O2 := hide ((hO.setN X4 (by decide) 0 (.int .i64 n)).setN (X4.set 0 (.int .i64 n)) (by decide) 1 (.slice A3 l3 c3))
    have Y2 := hide ((X4.set 0 (.int .i64 n)).set 1 (.slice A3 l3 c3))
    have E2 := hide ((hB.setCell (p := ⟨p4, 0, none⟩) hle2 (.int .i64 n)).setCell (p := ⟨p4, 1, none⟩) hle2 (.slice A3 l3 c3))
    go_wp2
    refine bodyPost_ret (results_cell_one rfl _ _ p4 24 #[.int .i64 n, .slice A3 l3 c3] _ _ rfl Y2.out Try.underlying24 rfl (by kernel_rfl)) rfl ?_
    exact ⟨_, by rw [v1.out, v2.out]; rfl, by rw [v3.out]; exact O2.out, E2.out⟩
end Go.Proofs.Ytoihankkldafoaa
