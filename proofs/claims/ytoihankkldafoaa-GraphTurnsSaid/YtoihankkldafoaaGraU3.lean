/- slices.Collect, graph.Filter with GraphTurns' function. -/
import Derived.Test.YtoihankkldafoaaGraU2
namespace Go.Proofs.Ytoihankkldafoaa
open Go.RowKit Go.Shelf

set_option maxHeartbeats 1000000 in
theorem collectT_any (gB fB aB kB : Nat) (A : Option Addr) (m c : Nat) (xs : List (Int × Int × Int)) (hm : m = xs.length) (hl : m ≤ 1000000) (kind : Int) (w : World)
    (hg : w.cell? ⟨gB, 1, none⟩ = some (.slice A m c)) (hF : BoxN w fB 54 #[.func (.func 31) #[] (clT aB kB)]) (hr : Rd edgeE aB w A xs) (ha : Box w aB 22 (.slice none 0 0)) (hk : Box w kB 3 (.int .i64 kind)) :
    Calls Try.prog 52 #[.func (.func 61) #[] #[.pointer (some ⟨gB, 0, none⟩), .pointer (some ⟨fB, 0, none⟩)]] w fun e w' => ∃ v u, e = .returned v ∧ Own edgeE 35 w.heap.size w' v (xs.filter (leK kind)) ∧ Box w' aB 22 u ∧ Own edgeE 35 w.heap.size w' u xs ∧ w.grownBy w' (some aB) := by
  have hs := hide (appendSeqT_any gB fB aB kB A m c xs hm hl kind w hg hF hr ha hk)
  clear hg hF hr ha hk
  go_enter Try.func52, Try.ntmps52
  go_wp2_with fail
  refine hs.out.mono ?_
  rintro e w3 ⟨v, u, rfl, hO, h1, h2, h3⟩
  clear hs
  obtain ⟨A3, c3, rfl, -, -, -⟩ := hO.rd
  replace hO := hide hO
  replace h1 := hide h1
  replace h2 := hide h2
  replace h3 := hide h3
  go_wp2
  go_ret
  exact ⟨_, u, rfl, hO.out, h1.out, h2.out, h3.out⟩
theorem grown_farN {w A : World} {r : Option Nat} {p : Addr} {u : Value} (h : w.grownBy A r) (hb : w.heap.size ≤ p.block) : w.grownBy (A.setCell p u) r :=
  ⟨h.os, h.tape, h.output, by show _ ≤ (A.heap.modify _ _).size; rw [Array.size_modify]; exact h.size, fun k hk hne => (Below.heap_setCell A p u k (by omega)).trans (h.block k hk hne)⟩
theorem rd_up {α : Type} {E : El α} {B B' : Nat} {w : World} {A : Option Addr} {xs : List α} (h : Rd E B w A xs) (hb : B ≤ B') : Rd E B' w A xs := by
  rcases h with h | ⟨b, off, he, h1, h2⟩
  · exact .inl h
  · exact .inr ⟨b, off, he, Nat.lt_of_lt_of_le h1 hb, h2⟩
theorem grown_box {α : Type} {w A : World} {r : Option Nat} {b : Nat} {t : TypeId} {cs : Array Value} (h : w.grownBy A r) (hb : BoxN w b t cs) (hn : some b ≠ r) : BoxN A b t cs := hb.grown h hn
set_option maxRecDepth 100000 in
set_option maxHeartbeats 4000000 in
theorem filterT_any (n kind : Int) (A : Option Addr) (m c aB kB : Nat) (xs : List (Int × Int × Int)) (w : World) (h : Rd edgeE aB w A xs) (hm : m = xs.length) (hl : m ≤ 1000000) (ha : Box w aB 22 (.slice none 0 0)) (hk : Box w kB 3 (.int .i64 kind)) :
    Calls Try.prog 30 #[.agg #[.int .i64 n, .slice A m c], .func (.func 31) #[] (clT aB kB)] w fun e w' => ∃ v u, e = .returned (.tuple #[.agg #[.int .i64 (gN n xs), v], .int .i64 (chkG n xs)]) ∧ Own edgeE 35 w.heap.size w' v (gL n xs (xs.filter (leK kind))) ∧
      Box w' aB 22 u ∧ (rightG n xs = true → Own edgeE 35 w.heap.size w' u xs) ∧ w.grownBy w' (some aB) := by
  obtain ⟨y1, hy1⟩ : ∃ q, q = gN n xs := ⟨_, rfl⟩
  obtain ⟨y2, hy2⟩ : ∃ q, q = chkG n xs := ⟨_, rfl⟩
  obtain ⟨y3, hy3⟩ : ∃ q, q = gL n xs (xs.filter (leK kind)) := ⟨_, rfl⟩
  obtain ⟨cl, hcl⟩ : ∃ q, q = clT aB kB := ⟨_, rfl⟩
  rw [← hy1, ← hy2, ← hy3, ← hcl]
  replace hy1 := hide hy1
  replace hy2 := hide hy2
  replace hy3 := hide hy3
  replace hcl := hide hcl
  have hal := ha.lt
  replace h := hide h
  replace hm := hide hm
  replace ha := hide ha
  replace hk := hide hk
  go_enter Try.func30, Try.ntmps30
  go_upto_region 1 with fail
  obtain ⟨w0, hw0⟩ : ∃ w0, w0 = (w.alloc (.cells #[.int .i64 n, .slice A m c] 24)).alloc (.cells #[.int .i64 0, .slice none 0 0] 24) := ⟨_, rfl⟩
  rw [← hw0]
  have hE0 : Ext w w0 := by rw [hw0]; exact ((Below.refl _ _).alloc (Nat.le_refl _) _).alloc (by simp) _
  have X2 : BoxN w0 w.heap.size 24 #[.int .i64 n, .slice A m c] := by rw [hw0]; exact (BoxN.new w _ _).alloc _
  have X4 : BoxN w0 (w.heap.size + 1) 24 #[.int .i64 0, .slice none 0 0] := by
    rw [hw0]
    have := BoxN.new (w.alloc (.cells #[.int .i64 n, .slice A m c] 24)) 24 #[.int .i64 0, .slice none 0 0]
    rw [World.size_alloc] at this
    exact this
  clear hw0
  obtain ⟨p2, hpa⟩ : ∃ b, b = w.heap.size := ⟨_, rfl⟩
  rw [← hpa] at X2 X4 ⊢
  obtain ⟨p4, hpb⟩ : ∃ b, b = p2 + 1 := ⟨_, rfl⟩
  rw [← hpb] at X4 ⊢
  have hle1 : w.heap.size ≤ p2 := by omega
  have hle2 : w.heap.size ≤ p4 := by omega
  have hne12 : p2 < p4 := by omega
  clear hpa hpb
  have k20 := X2.cell 0 (v := .int .i64 n) rfl
  have k21 := X2.cell 1 (v := .slice A m c) rfl
  have s2 := X2.lt
  have n2 : p2 ≠ aB := by omega
  have n4 : p4 ≠ aB := by omega
  have na4 : aB ≠ p4 := by omega
  go_wp2_with fail
  refine (check_any n A m c xs _ ((rd_up h.out (Nat.le_of_lt hal)).ext hE0) hm.out hl).mono ?_
  rintro e w1 ⟨rfl, hE⟩
  replace X2 := X2.ext hE
  replace X4 := X4.ext hE
  have hB := hE0.trans (hE.mono hE0.size)
  clear k20 k21 s2 hE hE0
  have hG : w.grownBy w1 (some aB) := grown_ext (World.grownBy.refl w _) hB
  have ha1 := ha.out.ext hB
  have hk1 := hk.out.ext hB
  cases hr : rightG n xs with
  | false =>
    obtain ⟨v1, v2, v3⟩ := g_no (l := xs.filter (leK kind)) hr
    rw [v2]
    rw [← hy1.out] at v1
    rw [← hy2.out] at v2
    rw [← hy3.out] at v3
    replace v1 := hide v1
    replace v2 := hide v2
    replace v3 := hide v3
    replace hr := hide hr
    have f0 := X4.free 0
    have f1 := X4.free 1
    have k0 := X4.cell 0 (v := .int .i64 0) rfl
    have k1 := X4.cell 1 (v := .slice none 0 0) rfl
    have s4 := X4.lt
    replace ha1 := hide ha1
    clear hk1
    go_wp2
    refine bodyPost_ret (results_cell_one rfl _ _ p4 24 #[.int .i64 0, .slice none 0 0] _ _ rfl ((X4.set 0 (.int .i64 0)).set 1 (.slice none 0 0)) Try.underlying24 rfl (by kernel_rfl)) rfl ?_
    exact ⟨_, _, by rw [v1.out, v2.out]; rfl, by rw [v3.out]; exact Own.nil_, (ha1.out.far (p := ⟨p4, 0, none⟩) na4 _).far (p := ⟨p4, 1, none⟩) na4 _, (fun e => by rw [hr.out] at e; cases e), grown_farN (grown_farN hG hle2) hle2⟩
  | true =>
    obtain ⟨v1, v2, v3⟩ := g_yes (l := xs.filter (leK kind)) hr
    rw [v2]
    rw [← hy1.out] at v1
    rw [← hy2.out] at v2
    rw [← hy3.out] at v3
    replace v1 := hide v1
    replace v2 := hide v2
    replace v3 := hide v3
    replace hr := hide hr
    have c20 := X2.cell 0 (v := .int .i64 n) rfl
    have c21 := X2.cell 1 (v := .slice A m c) rfl
    have s2 := X2.lt
    have s4 := X4.lt
    replace ha1 := hide ha1
    replace hk1 := hide hk1
    go_upto_region 4 with fail
    refine wp_region_mix (fun W => W.cell? ⟨p2, 0, none⟩ = some (.int .i64 n) ∧ W.cell? ⟨p2, 1, none⟩ = some (.slice A m c)) [(0, true), (1, true), (2, true), (3, true), (4, false), (5, false), (6, true), (7, false), (8, true)] (by kernel_rfl) (by kernel_rfl) (by kernel_rfl) (by kernel_rfl) (fun _ _ d _ _ h => by cases d <;> exact h) ?_ ?_
    · exact ⟨c20, c21⟩
    have E : Ext w1 w1.drew := (Below.refl _ _).drew
    obtain ⟨wl, hwh⟩ : ∃ x, x = w1.drew := ⟨_, rfl⟩
    rw [← hwh] at E ⊢
    clear hwh c20 c21 s2 s4
    iterate 4
      apply mix_q rfl rfl
      · intro W hW
        obtain ⟨hW1, hW2⟩ := hW
        go_simp
        try exact rfl
      simp only [Act.put, List.setIfInBounds_toArray, List.set_cons_zero, List.set_cons_succ]
    replace X2 := X2.ext E
    replace X4 := X4.ext E
    replace hG := grown_ext hG E
    replace ha1 := hide (ha1.out.ext E)
    replace hk1 := hide (hk1.out.ext E)
    have hBl := hB.trans (E.mono hB.size)
    refine mix_w rfl rfl (fun K hK => ?_)
    go_simp
    refine (edges_any n A m c 31 cl _).mono ?_
    rintro e w2 ⟨rfl, hw2⟩
    obtain ⟨hE2, g1, g2⟩ := edges_new n A m c _ _ _ _ hw2
    have hF2 : BoxN w2 (wl.heap.size + 1) 54 #[.func (.func 31) #[] (clT aB kB)] := by
      rw [hw2, ← hcl.out]
      have := BoxN.new (wl.alloc (.cells #[.int .i64 n, .slice A m c] 24)) 54 #[.func (.func 31) #[] cl]
      rw [World.size_alloc] at this
      exact this
    replace X2 := X2.ext hE2
    replace X4 := X4.ext hE2
    replace hG := grown_ext hG hE2
    replace ha1 := hide (ha1.out.ext hE2)
    replace hk1 := hide (hk1.out.ext hE2)
    have hB2 := hBl.trans (hE2.mono hBl.size)
    refine hK _ _ ⟨X2.cell 0 rfl, X2.cell 1 rfl⟩ ?_
    clear hK K hw2 hE2
    try simp only [Act.put, List.setIfInBounds_toArray, List.set_cons_zero, List.set_cons_succ]
    refine mix_w rfl rfl (fun K hK => ?_)
    go_simp
    refine (collectT_any _ _ aB kB A m c xs hm.out hl kind _ g1 hF2 (h.out.below (hB2.mono (Nat.le_of_lt hal))) ha1.out hk1.out).mono ?_
    rintro e w3 ⟨v, u, rfl, hO, hU, hOu, hG3⟩
    replace hO := hO.base_le hB2.size
    replace hOu := hOu.base_le hB2.size
    replace X2 := X2.grown hG3 (fun e => n2 (by injection e))
    replace X4 := X4.grown hG3 (fun e => n4 (by injection e))
    have hG4 := grown_trans2 hG hG3
    refine hK _ _ ⟨X2.cell 0 rfl, X2.cell 1 rfl⟩ ?_
    clear hK K g1 g2 hF2 hG3 ha1 hk1
    try simp only [Act.put, List.setIfInBounds_toArray, List.set_cons_zero, List.set_cons_succ]
    obtain ⟨A3, c3, rfl, -, -, -⟩ := hO.rd
    obtain ⟨l3, hl3⟩ : ∃ l, l = (xs.filter (leK kind)).length := ⟨_, rfl⟩
    rw [← hl3] at hO ⊢
    replace hl3 := hide hl3
    replace hU := hide hU
    replace hOu := hide hOu
    iterate 1
      apply mix_q rfl rfl
      · intro W hW
        obtain ⟨hW1, hW2⟩ := hW
        go_simp
        try exact rfl
      simp only [Act.put, List.setIfInBounds_toArray, List.set_cons_zero, List.set_cons_succ]
    have f0 := X4.free 0
    have f1 := X4.free 1
    have k0 := X4.cell 0 (v := .int .i64 0) rfl
    have k1 := X4.cell 1 (v := .slice none 0 0) rfl
    have s4 := X4.lt
    have n24 : p2 ≠ p4 := by omega
    refine mix_w rfl rfl (fun K hK => ?_)
    go_simp
    refine hK _ _ ⟨((X2.far (p := ⟨p4, 0, none⟩) n24 _).far (p := ⟨p4, 1, none⟩) n24 _).cell 0 rfl, ((X2.far (p := ⟨p4, 0, none⟩) n24 _).far (p := ⟨p4, 1, none⟩) n24 _).cell 1 rfl⟩ ?_
    clear hK K
    try simp only [Act.put, List.setIfInBounds_toArray, List.set_cons_zero, List.set_cons_succ]
    iterate 1
      apply mix_q rfl rfl
      · intro W hW
        obtain ⟨hW1, hW2⟩ := hW
        go_simp
        try exact rfl
      simp only [Act.put, List.setIfInBounds_toArray, List.set_cons_zero, List.set_cons_succ]
    refine mix_nil ?_
    have O2 := hide ((hO.setN X4 (by decide) 0 (.int .i64 n)).setN (X4.set 0 (.int .i64 n)) (by decide) 1 (.slice A3 l3 c3))
    have U2 := hide ((hOu.out.setN X4 (by decide) 0 (.int .i64 n)).setN (X4.set 0 (.int .i64 n)) (by decide) 1 (.slice A3 l3 c3))
    have B2 := hide ((hU.out.far (p := ⟨p4, 0, none⟩) na4 (.int .i64 n)).far (p := ⟨p4, 1, none⟩) na4 (.slice A3 l3 c3))
    have Y2 := hide ((X4.set 0 (.int .i64 n)).set 1 (.slice A3 l3 c3))
    have E2 := hide (grown_farN (p := ⟨p4, 1, none⟩) (u := .slice A3 l3 c3) (grown_farN (p := ⟨p4, 0, none⟩) (u := .int .i64 n) hG4 hle2) hle2)
    go_wp2
    refine bodyPost_ret (results_cell_one rfl _ _ p4 24 #[.int .i64 n, .slice A3 l3 c3] _ _ rfl Y2.out Try.underlying24 rfl (by kernel_rfl)) rfl ?_
    exact ⟨_, _, by rw [v1.out, v2.out]; rfl, by rw [v3.out]; exact O2.out, B2.out, fun _ => U2.out, E2.out⟩
end Go.Proofs.Ytoihankkldafoaa
