/- graph.Reverse, Kinds. -/
import Derived.Test.YtepgpiolhiidiaaGraQ
namespace Go.Proofs.Ytepgpiolhiidiaa
open Go.RowKit Go.Shelf
attribute [local go_sem] Oper.semAt_some

set_option maxHeartbeats 4000000 in
theorem reverse_any (n : Int) (A : Option Addr) (m c : Nat) (xs : List (Int × Int × Int)) (w : World) (h : Rd edgeE w.heap.size w A xs) (hm : m = xs.length) (hl : m ≤ 1000000) :
    Calls Try.prog 29 #[.agg #[.int .i64 n, .slice A m c]] w fun e w' => ∃ v, e = .returned (.tuple #[.agg #[.int .i64 (gN n xs), v], .int .i64 (chkG n xs)]) ∧ Own edgeE 50 w.heap.size w' v (gL n xs (ofE (xs.map turn))) ∧ Ext w w' := by
  obtain ⟨y1, hy1⟩ : ∃ q, q = gN n xs := ⟨_, rfl⟩
  obtain ⟨y2, hy2⟩ : ∃ q, q = chkG n xs := ⟨_, rfl⟩
  obtain ⟨y3, hy3⟩ : ∃ q, q = gL n xs (ofE (xs.map turn)) := ⟨_, rfl⟩
  rw [← hy1, ← hy2, ← hy3]
  replace hy1 := hide hy1
  replace hy2 := hide hy2
  replace hy3 := hide hy3
  replace h := hide h
  replace hm := hide hm
  go_enter Try.func29, Try.ntmps29
  go_upto_region 1 with fail
  obtain ⟨w0, hw0⟩ : ∃ w0, w0 = (w.alloc (.cells #[.int .i64 n, .slice A m c] 24)).alloc (.cells #[.int .i64 0, .slice none 0 0] 24) := ⟨_, rfl⟩
  rw [← hw0]
  have hE0 : Ext w w0 := by rw [hw0]; exact ((Below.refl _ _).alloc (Nat.le_refl _) _).alloc (by simp) _
  have X1 : BoxN w0 w.heap.size 24 #[.int .i64 n, .slice A m c] := by rw [hw0]; exact (BoxN.new w _ _).alloc _
  have X2 : BoxN w0 (w.heap.size + 1) 24 #[.int .i64 0, .slice none 0 0] := by
    rw [hw0]
    have := BoxN.new (w.alloc (.cells #[.int .i64 n, .slice A m c] 24)) 24 #[.int .i64 0, .slice none 0 0]
    rw [World.size_alloc] at this
    exact this
  clear hw0
  obtain ⟨q1, hpa⟩ : ∃ b, b = w.heap.size := ⟨_, rfl⟩
  rw [← hpa] at X1 X2 ⊢
  obtain ⟨q2, hpb⟩ : ∃ b, b = q1 + 1 := ⟨_, rfl⟩
  rw [← hpb] at X2 ⊢
  have hle1 : w.heap.size ≤ q1 := by omega
  have hle2 : w.heap.size ≤ q2 := by omega
  have hne12 : q1 < q2 := by omega
  clear hpa hpb
  have k10 := X1.cell 0 (v := .int .i64 n) rfl
  have k11 := X1.cell 1 (v := .slice A m c) rfl
  have s1 := X1.lt
  go_wp2_with fail
  refine (check_any n A m c xs _ (h.out.ext hE0) hm.out hl).mono ?_
  rintro e w1 ⟨rfl, hE⟩
  replace X1 := X1.ext hE
  replace X2 := X2.ext hE
  have hB0 := hE0.trans (hE.mono hE0.size)
  clear k10 k11 s1 hE hE0
  cases hr : rightG n xs with
  | false =>
    obtain ⟨v1, v2, v3⟩ := g_no (l := ofE (xs.map turn)) hr
    rw [v2]
    rw [← hy1.out] at v1
    rw [← hy2.out] at v2
    rw [← hy3.out] at v3
    replace v1 := hide v1
    replace v2 := hide v2
    replace v3 := hide v3
    replace hr := hide hr
    have f0 := X2.free 0
    have f1 := X2.free 1
    have k0 := X2.cell 0 (v := .int .i64 0) rfl
    have k1 := X2.cell 1 (v := .slice none 0 0) rfl
    have s4 := X2.lt
    go_wp2
    refine bodyPost_ret (results_cell_one rfl _ _ q2 24 #[.int .i64 0, .slice none 0 0] _ _ rfl ((X2.set 0 (.int .i64 0)).set 1 (.slice none 0 0)) Try.underlying24 rfl (by kernel_rfl)) rfl ?_
    exact ⟨_, by rw [v1.out, v2.out]; rfl, by rw [v3.out]; exact Own.nil_, (hB0.setCell (p := ⟨q2, 0, none⟩) hle2 _).setCell (p := ⟨q2, 1, none⟩) hle2 _⟩
  | true =>
    obtain ⟨v1, v2, v3⟩ := g_yes (l := ofE (xs.map turn)) hr
    rw [v2]
    rw [← hy1.out] at v1
    rw [← hy2.out] at v2
    rw [← hy3.out] at v3
    replace v1 := hide v1
    replace v2 := hide v2
    replace v3 := hide v3
    replace hr := hide hr
    have k10 := X1.cell 0 (v := .int .i64 n) rfl
    have k11 := X1.cell 1 (v := .slice A m c) rfl
    have s1 := X1.lt
    replace X1 := hide X1
    replace X2 := hide X2
    go_wp2
    go_loopw [5, 17] (fun o i wr => ∃ k : Nat, k ≤ m ∧ i = .int .i64 k ∧ Hid (Own edgeE 50 w.heap.size wr o ((xs.take k).map turn)) ∧ Hid (BoxN wr q1 24 #[.int .i64 n, .slice A m c]) ∧ Hid (BoxN wr q2 24 #[.int .i64 0, .slice none 0 0]) ∧ Ext w wr) (fun _ i _ => m - (intOf i).toNat)
    case atStart => exact ⟨0, Nat.zero_le _, rfl, hide Own.nil_, X1, X2, hB0⟩
    case round =>
      clear X1 X2 hB0 k10 k11 s1
      obtain ⟨k, hk, rfl, O5, X1, X2, hB⟩ := hrel
      have hlen : Hid (((xs.take k).map turn).length ≤ 1000000) := hide (by rw [List.length_map, List.length_take]; omega)
      obtain ⟨A5, c5, hv5, -, hc5, -⟩ := O5.out.rd
      subst hv5
      obtain ⟨l5, hl5⟩ : ∃ l, l = ((xs.take k).map turn).length := ⟨_, rfl⟩
      rw [← hl5] at O5 hc5 ⊢
      replace hl5 := hide hl5
      by_cases hlt : k < m
      · have hlt' : (k : Int) < (m : Int) := by omega
        obtain ⟨b, off, rfl, hra⟩ := h.out.at_ (i := k) (by rw [← hm.out]; exact hlt)
        obtain ⟨⟨p1, p2, p3⟩, hx⟩ := get_some (xs := xs) (i := k) (by rw [← hm.out]; exact hlt)
        obtain ⟨hx1, hx2, hx3⟩ := (hra.below hB).edge hx
        have hb1 : b < wr.heap.size := Nat.lt_of_lt_of_le hra.1 hB.size
        replace hx := hide hx
        replace hra := hide hra
        go_upto_region 8 with fail
        obtain ⟨w2, hw1⟩ : ∃ x, x = World.alloc wr (.cells #[.int .i64 p1, .int .i64 p2, .int .i64 p3] 50) := ⟨_, rfl⟩
        rw [← hw1]
        have hE1 : Ext wr w2 := by rw [hw1]; exact (Below.refl _ _).alloc (Nat.le_refl _) _
        have X7 : BoxN w2 (World.heap wr).size 50 #[.int .i64 p1, .int .i64 p2, .int .i64 p3] := by rw [hw1]; exact BoxN.new _ _ _
        clear hw1
        obtain ⟨p7, hpe⟩ : ∃ b, b = (World.heap wr).size := ⟨_, rfl⟩
        rw [← hpe] at X7 ⊢
        clear hpe
        have hB1 := hB.trans (hE1.mono hB.size)
        clear hx1 hx2 hx3 hb1
        replace O5 := O5.out.ext hE1
        replace X1 := X1.out.ext hE1
        replace X2 := X2.out.ext hE1
        have k70 := X7.cell 0 (v := .int .i64 p1) rfl
        have k71 := X7.cell 1 (v := .int .i64 p2) rfl
        have k72 := X7.cell 2 (v := .int .i64 p3) rfl
        have s7 := X7.lt
        have hst : Hid ((xs.take (k + 1)).map turn = (xs.take k).map turn ++ [(p2, p1, p3)]) := hide (by rw [take_snoc hx.out, List.map_append]; rfl)
        have hon := own_new (base := 0) (e := 50) edgeE w2 (p2, p1, p3) w2.heap.size rfl (Nat.zero_le _)
        obtain ⟨A4, c4, hv1, hr4, -, -⟩ := hon.rd
        injection hv1 with hv2 hv3 hv4
        subst hv2
        clear hon hv3 hv4
        replace hr4 := hide hr4
        have Oa := hide (O5.alloc (.cells (edgeE.cs (p2, p1, p3)).toArray 50))
        have hsz := hB1.size
        have hEa := hide (hB1.alloc hsz (.cells (edgeE.cs (p2, p1, p3)).toArray 50))
        go_wp2_with (at_builtin; refine wpList_app tyEdge rfl (.tmp 21) (.tmp 29) rfl rfl Oa.out rfl hr4.out rfl (by have := hlen.out; simp at this ⊢; omega) (by simp; omega) ?_)
        intro v9 w9 hown hg hne hnil
        have T9 : Below w.heap.size w w9 := Own.below Oa.out hEa.out hg (by simp; omega)
        rw [← List.map_take, ← hst.out] at hown
        replace hown := hide hown
        have Y1 := hide ((X1.alloc (.cells (edgeE.cs (p2, p1, p3)).toArray 50)).app Oa.out hg (by decide))
        have Y2 := hide ((X2.alloc (.cells (edgeE.cs (p2, p1, p3)).toArray 50)).app Oa.out hg (by decide))
        clear hg hne hnil Oa hEa hr4 O5
        go_wp2
        refine ⟨?_, ?_⟩
        · first
            | exact ⟨k + 1, by omega, by go_num, hown, Y1, Y2, T9⟩
            | ((repeat apply Exists.intro); exact ⟨⟨k + 1, by omega, by go_num, hown, Y1, Y2, T9⟩, rfl⟩)
        · first | (simp [intOf, lenV]; omega) | (simp [intOf]; omega) | (simp [intOf]; done)
      · have hlt' : ¬ (k : Int) < (m : Int) := by omega
        have hkm : xs.take k = xs := List.take_of_length_le (by rw [← hm.out]; omega)
        rw [hkm] at O5 hl5
        obtain ⟨A5x, c5x, he5, r5, -, -⟩ := O5.out.rd
        rw [← hl5.out] at he5
        injection he5 with he51 he52 he53
        subst he51 he53
        clear he52 hkm
        have hl5b : l5 ≤ 1000000 := by rw [hl5.out, List.length_map, ← hm.out]; exact hl
        replace X1 := X1.out
        replace X2 := X2.out
        have k10 := X1.cell 0 (v := .int .i64 n) rfl
        have k11 := X1.cell 1 (v := .slice A m c) rfl
        have s1 := X1.lt
        go_wp2_with fail
        refine (of_any n A5 l5 c5 (xs.map turn) _ r5 hl5.out hc5 hl5b).mono ?_
        rintro e w2 ⟨v, rfl, hO, hE2⟩
        replace hO := hO.base_le hB.size
        replace X2 := X2.ext hE2
        have hB2 := hB.trans (hE2.mono hB.size)
        clear hE2 k10 k11 s1 O5 r5
        obtain ⟨A6, c6, rfl, -, -, -⟩ := hO.rd
        obtain ⟨l6, hl6⟩ : ∃ l, l = (ofE (xs.map turn)).length := ⟨_, rfl⟩
        rw [← hl6] at hO ⊢
        replace hl6 := hide hl6
        replace hO := hide hO
        have k20 := X2.cell 0 (v := .int .i64 0) rfl
        have k21 := X2.cell 1 (v := .slice none 0 0) rfl
        have s2 := X2.lt
        have f20 := X2.free 0
        have f21 := X2.free 1
        go_wp2
        refine bodyPost_ret (results_cell_one rfl _ _ q2 24 #[.int .i64 n, .slice A6 l6 c6] _ _ rfl ((X2.set 0 (.int .i64 n)).set 1 (.slice A6 l6 c6)) Try.underlying24 rfl (by kernel_rfl)) rfl ?_
        exact ⟨_, by rw [v1.out, v2.out]; rfl, by rw [v3.out]; exact (hO.out.setN X2 (by decide) 0 _).setN (X2.set 0 _) (by decide) 1 _, (hB2.setCell (p := ⟨q2, 0, none⟩) hle2 _).setCell (p := ⟨q2, 1, none⟩) hle2 _⟩
/-! ### Kinds -/
end Go.Proofs.Ytepgpiolhiidiaa
