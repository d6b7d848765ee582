/- The document's With, Of, Reverse, Starts. -/
import Derived.Test.YtoihankkldafoaaGraG
namespace Go.Proofs.Ytoihankkldafoaa
open Go.RowKit

set_option maxHeartbeats 4000000 in
theorem with_any (A : Option Addr) (m c : Nat) (e1 e2 e3 : Int) (xs : List (Int × Int × Int)) (w : World) (h : Rd edgeE w.heap.size w A xs) (hm : m = xs.length) (hl : m ≤ 100000) :
    Calls Try.prog 46 #[.slice A m c, .agg #[.int .i64 e1, .int .i64 e2, .int .i64 e3]] w fun e w' => ∃ u, e = .returned u ∧ Own edgeE 35 w.heap.size w' u (withL xs (e1, e2, e3)) ∧ Ext w w' := by
  obtain ⟨y, hy⟩ : ∃ y, y = withL xs (e1, e2, e3) := ⟨_, rfl⟩
  rw [← hy]
  replace hy := hide hy
  replace h := hide h
  replace hm := hide hm
  go_enter Try.func46, Try.ntmps46
  go_upto_region 1 with fail
  obtain ⟨w0, hw0⟩ : ∃ w0, w0 = w.alloc (.cells #[.int .i64 e1, .int .i64 e2, .int .i64 e3] 35) := ⟨_, rfl⟩
  rw [← hw0]
  have hE0 : Ext w w0 := by rw [hw0]; exact (Below.refl _ _).alloc (Nat.le_refl _) _
  have X3 : Hid (BoxN w0 w.heap.size 35 #[.int .i64 e1, .int .i64 e2, .int .i64 e3]) := hide (by rw [hw0]; exact BoxN.new w _ _)
  clear hw0
  obtain ⟨pe, hpe3⟩ : ∃ b, b = w.heap.size := ⟨_, rfl⟩
  rw [← hpe3] at X3 ⊢
  clear hpe3
  replace h := hide (h.out.ext hE0)
  go_wp2
  go_loopw [5, 6, 11] (fun o b i wr => ∃ (k : Nat) (zs : List (Int × Int × Int)) (lb : Bool), k ≤ m ∧ i = .int .i64 k ∧ b = .bool lb ∧ Hid (withF (e1, e2, e3) (xs.take k) = (zs, lb)) ∧ Hid (Own edgeE 35 w0.heap.size wr o zs) ∧ Ext w0 wr) (fun _ _ i _ => m - (intOf i).toNat)
  case atStart => exact ⟨0, [], false, Nat.zero_le _, rfl, rfl, hide rfl, hide Own.nil_, Below.refl _ _⟩
  case round =>
    obtain ⟨k, zs, lb, hk, rfl, rfl, hF, O5, hB⟩ := hrel
    have hlen : Hid (zs.length ≤ 200000) := hide (by have := withF_len (e1, e2, e3) (xs.take k); rw [hF.out, List.length_take] at this; simp only at this; omega)
    by_cases hlt : k < m
    · have hlt' : (k : Int) < (m : Int) := by omega
      obtain ⟨b, off, rfl, hra⟩ := h.out.at_ (i := k) (by rw [← hm.out]; exact hlt)
      obtain ⟨⟨p1, p2, p3⟩, hx⟩ := get_some (xs := xs) (i := k) (by rw [← hm.out]; exact hlt)
      obtain ⟨hx1, hx2, hx3⟩ := (hra.below hB).edge hx
      have hb1 : b < wr.heap.size := Nat.lt_of_lt_of_le hra.1 hB.size
      replace hx := hide hx
      replace hra := hide hra
      go_upto_region 6 with fail
      obtain ⟨w1, hw1⟩ : ∃ x, x = World.alloc wr (.cells #[.int .i64 p1, .int .i64 p2, .int .i64 p3] 35) := ⟨_, rfl⟩
      rw [← hw1]
      have hE1 : Ext wr w1 := by rw [hw1]; exact (Below.refl _ _).alloc (Nat.le_refl _) _
      have X8 : BoxN w1 (World.heap wr).size 35 #[.int .i64 p1, .int .i64 p2, .int .i64 p3] := by rw [hw1]; exact BoxN.new _ _ _
      clear hw1
      obtain ⟨p8, hpe⟩ : ∃ b, b = (World.heap wr).size := ⟨_, rfl⟩
      rw [← hpe] at X8 ⊢
      have hne8 : Hid (∀ v b, Own edgeE 35 b wr v zs → some p8 ≠ v.ownBlock) := hide (fun v b hv he => by have := (hv.lt p8 he.symm).2; omega)
      have h8n := hide (hne8.out _ _ O5.out)
      clear hpe hne8
      have T := hB.trans (hE1.mono hB.size)
      clear hx1 hx2 hx3 hb1
      replace O5 := O5.out.ext hE1
      obtain ⟨A5, c5, hv5, -, -, -⟩ := O5.rd
      subst hv5
      obtain ⟨l5, hl5⟩ : ∃ l, l = zs.length := ⟨_, rfl⟩
      rw [← hl5] at O5 h8n ⊢
      replace hl5 := hide hl5
      have Z3 := hide (X3.out.ext T)
      cases lb with
      | true =>
        have hlt1 : True := trivial
        have k30 := Z3.out.cell 0 (v := .int .i64 e1) rfl
        have k31 := Z3.out.cell 1 (v := .int .i64 e2) rfl
        have k32 := Z3.out.cell 2 (v := .int .i64 e3) rfl
        have s3 := Z3.out.lt
        have k80 := X8.cell 0 (v := .int .i64 p1) rfl
        have k81 := X8.cell 1 (v := .int .i64 p2) rfl
        have k82 := X8.cell 2 (v := .int .i64 p3) rfl
        have s8 := X8.lt
        cases hnx : neE (p1, p2, p3) (e1, e2, e3) with
        | true =>
          have hst : Hid (withF (e1, e2, e3) (xs.take (k + 1)) = (zs ++ [(p1, p2, p3)], true)) := hide (by rw [take_snoc hx.out, withF_snoc, hF.out]; unfold withStep; simp only [hlt1, hnx]; simp)
          replace hlt1 := hide hlt1
          have hon := own_new (base := 0) (e := 35) edgeE w1 (p1, p2, p3) (World.heap w1).size rfl (Nat.zero_le _)
          obtain ⟨A4, c4, hv1, hr4, -, -⟩ := hon.rd
          injection hv1 with hv2 hv3 hv4
          subst hv2
          clear hon hv3 hv4
          replace hr4 := hide hr4
          have Oa := hide (O5.alloc (.cells (edgeE.cs (p1, p2, p3)).toArray 35))
          have hsz := T.size
          have hEa := hide (T.alloc hsz (.cells (edgeE.cs (p1, p2, p3)).toArray 35))
          go_wp2_with (at_builtin; refine wpList_app tyEdge rfl (.tmp 30) (.tmp 32) rfl rfl Oa.out rfl hr4.out rfl (by have := hlen.out; simp at this ⊢; omega) (by simp; omega) ?_)
          intro v10 w10 hown2 hg hne hnil
          have T10 : Below w0.heap.size w0 w10 := Own.below Oa.out hEa.out hg (by simp; omega)
          replace hown2 := hide hown2
          clear hg hne hnil Oa hEa hr4 O5
          go_wp2
          refine ⟨?_, ?_⟩
          · first
              | exact ⟨k + 1, zs ++ [(p1, p2, p3)], true, by omega, by go_num, rfl, hst, hide (by have := hown2.out; simpa using this), T10⟩
              | ((repeat apply Exists.intro); exact ⟨⟨k + 1, zs ++ [(p1, p2, p3)], true, by omega, by go_num, rfl, hst, hide (by have := hown2.out; simpa using this), T10⟩, rfl⟩)
          · first | (simp [intOf, lenV]; omega) | (simp [intOf]; omega) | (simp [intOf]; done)
        | false =>
          have hst : Hid (withF (e1, e2, e3) (xs.take (k + 1)) = (zs, true)) := hide (by rw [take_snoc hx.out, withF_snoc, hF.out]; unfold withStep; simp only [hlt1, hnx]; simp)
          replace hlt1 := hide hlt1
          replace O5 := hide O5
          go_wp2
          refine ⟨?_, ?_⟩
          · first
              | exact ⟨k + 1, zs, true, by omega, by go_num, rfl, hst, O5, T⟩
              | ((repeat apply Exists.intro); exact ⟨⟨k + 1, zs, true, by omega, by go_num, rfl, hst, O5, T⟩, rfl⟩)
          · first | (simp [intOf, lenV]; omega) | (simp [intOf]; omega) | (simp [intOf]; done)
      | false =>
        have k30 := Z3.out.cell 0 (v := .int .i64 e1) rfl
        have k31 := Z3.out.cell 1 (v := .int .i64 e2) rfl
        have k32 := Z3.out.cell 2 (v := .int .i64 e3) rfl
        have s3 := Z3.out.lt
        have k80 := X8.cell 0 (v := .int .i64 p1) rfl
        have k81 := X8.cell 1 (v := .int .i64 p2) rfl
        have k82 := X8.cell 2 (v := .int .i64 p3) rfl
        have s8 := X8.lt
        go_wp2_with fail
        refine (ahead_any p1 p2 p3 e1 e2 e3 _).mono ?_
        rintro e w2 ⟨rfl, hE2⟩
        replace O5 := O5.ext hE2
        replace X8 := X8.ext hE2
        replace T := T.trans (hE2.mono T.size)
        replace Z3 := hide (Z3.out.ext hE2)
        clear hE2
        clear k30 k31 k32 s3 k80 k81 k82 s8
        cases hlt1 : ltE (p1, p2, p3) (e1, e2, e3) with
        | true =>
          have k30 := Z3.out.cell 0 (v := .int .i64 e1) rfl
          have k31 := Z3.out.cell 1 (v := .int .i64 e2) rfl
          have k32 := Z3.out.cell 2 (v := .int .i64 e3) rfl
          have s3 := Z3.out.lt
          have k80 := X8.cell 0 (v := .int .i64 p1) rfl
          have k81 := X8.cell 1 (v := .int .i64 p2) rfl
          have k82 := X8.cell 2 (v := .int .i64 p3) rfl
          have s8 := X8.lt
          cases hnx : neE (p1, p2, p3) (e1, e2, e3) with
          | true =>
            have hst : Hid (withF (e1, e2, e3) (xs.take (k + 1)) = (zs ++ [(p1, p2, p3)], false)) := hide (by rw [take_snoc hx.out, withF_snoc, hF.out]; unfold withStep; simp only [hlt1, hnx]; simp)
            replace hlt1 := hide hlt1
            have hon := own_new (base := 0) (e := 35) edgeE w2 (p1, p2, p3) (World.heap w2).size rfl (Nat.zero_le _)
            obtain ⟨A4, c4, hv1, hr4, -, -⟩ := hon.rd
            injection hv1 with hv2 hv3 hv4
            subst hv2
            clear hon hv3 hv4
            replace hr4 := hide hr4
            have Oa := hide (O5.alloc (.cells (edgeE.cs (p1, p2, p3)).toArray 35))
            have hsz := T.size
            have hEa := hide (T.alloc hsz (.cells (edgeE.cs (p1, p2, p3)).toArray 35))
            go_wp2_with (at_builtin; refine wpList_app tyEdge rfl (.tmp 30) (.tmp 32) rfl rfl Oa.out rfl hr4.out rfl (by have := hlen.out; simp at this ⊢; omega) (by simp; omega) ?_)
            intro v10 w10 hown2 hg hne hnil
            have T10 : Below w0.heap.size w0 w10 := Own.below Oa.out hEa.out hg (by simp; omega)
            replace hown2 := hide hown2
            clear hg hne hnil Oa hEa hr4 O5
            go_wp2
            refine ⟨?_, ?_⟩
            · first
                | exact ⟨k + 1, zs ++ [(p1, p2, p3)], false, by omega, by go_num, rfl, hst, hide (by have := hown2.out; simpa using this), T10⟩
                | ((repeat apply Exists.intro); exact ⟨⟨k + 1, zs ++ [(p1, p2, p3)], false, by omega, by go_num, rfl, hst, hide (by have := hown2.out; simpa using this), T10⟩, rfl⟩)
            · first | (simp [intOf, lenV]; omega) | (simp [intOf]; omega) | (simp [intOf]; done)
          | false =>
            have hst : Hid (withF (e1, e2, e3) (xs.take (k + 1)) = (zs, false)) := hide (by rw [take_snoc hx.out, withF_snoc, hF.out]; unfold withStep; simp only [hlt1, hnx]; simp)
            replace hlt1 := hide hlt1
            replace O5 := hide O5
            go_wp2
            refine ⟨?_, ?_⟩
            · first
                | exact ⟨k + 1, zs, false, by omega, by go_num, rfl, hst, O5, T⟩
                | ((repeat apply Exists.intro); exact ⟨⟨k + 1, zs, false, by omega, by go_num, rfl, hst, O5, T⟩, rfl⟩)
            · first | (simp [intOf, lenV]; omega) | (simp [intOf]; omega) | (simp [intOf]; done)
        | false =>
          have k30 := Z3.out.cell 0 (v := .int .i64 e1) rfl
          have k31 := Z3.out.cell 1 (v := .int .i64 e2) rfl
          have k32 := Z3.out.cell 2 (v := .int .i64 e3) rfl
          have s3 := Z3.out.lt
          have k80 := X8.cell 0 (v := .int .i64 p1) rfl
          have k81 := X8.cell 1 (v := .int .i64 p2) rfl
          have k82 := X8.cell 2 (v := .int .i64 p3) rfl
          have s8 := X8.lt
          have hon := own_new (base := 0) (e := 35) edgeE w2 (e1, e2, e3) (World.heap w2).size rfl (Nat.zero_le _)
          obtain ⟨A4, c4, hv1, hr4, -, -⟩ := hon.rd
          injection hv1 with hv2 hv3 hv4
          subst hv2
          clear hon hv3 hv4
          replace hr4 := hide hr4
          have Oa := hide (O5.alloc (.cells (edgeE.cs (e1, e2, e3)).toArray 35))
          have hsz := T.size
          have hEa := hide (T.alloc hsz (.cells (edgeE.cs (e1, e2, e3)).toArray 35))
          go_wp2_with (at_builtin; refine wpList_app tyEdge rfl (.tmp 23) (.tmp 25) rfl rfl Oa.out rfl hr4.out rfl (by have := hlen.out; simp at this ⊢; omega) (by simp; omega) ?_)
          intro v9 w9 hown hg hne hnil
          have T9 : Below w0.heap.size w0 w9 := Own.below Oa.out hEa.out hg (by simp; omega)
          have Z8 := ((X8.alloc (.cells (edgeE.cs (e1, e2, e3)).toArray 35)).grown hg h8n.out)
          replace X8 := Z8
          replace Z3 := hide (X3.out.ext T9)
          clear hg hne hnil Oa hEa hr4 O5 Z8
          clear k30 k31 k32 s3 k80 k81 k82 s8
          have k30 := Z3.out.cell 0 (v := .int .i64 e1) rfl
          have k31 := Z3.out.cell 1 (v := .int .i64 e2) rfl
          have k32 := Z3.out.cell 2 (v := .int .i64 e3) rfl
          have s3 := Z3.out.lt
          have k80 := X8.cell 0 (v := .int .i64 p1) rfl
          have k81 := X8.cell 1 (v := .int .i64 p2) rfl
          have k82 := X8.cell 2 (v := .int .i64 p3) rfl
          have s8 := X8.lt
          have O9 := hown
          clear hown
          obtain ⟨A9, c9, hv9, -, -, -⟩ := O9.rd
          subst hv9
          obtain ⟨l9, hl9⟩ : ∃ l, l = (zs ++ [(e1, e2, e3)]).length := ⟨_, rfl⟩
          rw [← hl9] at O9 ⊢
          replace hl9 := hide hl9
          have hlen9 : Hid ((zs ++ [(e1, e2, e3)]).length ≤ 300000) := hide (by have := hlen.out; rw [List.length_append, List.length_singleton]; omega)
          cases hnx : neE (p1, p2, p3) (e1, e2, e3) with
          | true =>
            have hst : Hid (withF (e1, e2, e3) (xs.take (k + 1)) = ((zs ++ [(e1, e2, e3)]) ++ [(p1, p2, p3)], true)) := hide (by rw [take_snoc hx.out, withF_snoc, hF.out]; unfold withStep; simp only [hlt1, hnx]; simp)
            replace hlt1 := hide hlt1
            have hon := own_new (base := 0) (e := 35) edgeE w9 (p1, p2, p3) (World.heap w9).size rfl (Nat.zero_le _)
            obtain ⟨A4, c4, hv1, hr4, -, -⟩ := hon.rd
            injection hv1 with hv2 hv3 hv4
            subst hv2
            clear hon hv3 hv4
            replace hr4 := hide hr4
            have Oa := hide (O9.alloc (.cells (edgeE.cs (p1, p2, p3)).toArray 35))
            have hsz := T9.size
            have hEa := hide (T9.alloc hsz (.cells (edgeE.cs (p1, p2, p3)).toArray 35))
            go_wp2_with (at_builtin; refine wpList_app tyEdge rfl (.tmp 30) (.tmp 32) rfl rfl Oa.out rfl hr4.out rfl (by have := hlen9.out; simp at this ⊢; omega) (by simp; omega) ?_)
            intro v10 w10 hown2 hg hne hnil
            have T10 : Below w0.heap.size w0 w10 := Own.below Oa.out hEa.out hg (by simp; omega)
            replace hown2 := hide hown2
            clear hg hne hnil Oa hEa hr4 O9
            go_wp2
            refine ⟨?_, ?_⟩
            · first
                | exact ⟨k + 1, (zs ++ [(e1, e2, e3)]) ++ [(p1, p2, p3)], true, by omega, by go_num, rfl, hst, hide (by have := hown2.out; simpa using this), T10⟩
                | ((repeat apply Exists.intro); exact ⟨⟨k + 1, (zs ++ [(e1, e2, e3)]) ++ [(p1, p2, p3)], true, by omega, by go_num, rfl, hst, hide (by have := hown2.out; simpa using this), T10⟩, rfl⟩)
            · first | (simp [intOf, lenV]; omega) | (simp [intOf]; omega) | (simp [intOf]; done)
          | false =>
            have hst : Hid (withF (e1, e2, e3) (xs.take (k + 1)) = ((zs ++ [(e1, e2, e3)]), true)) := hide (by rw [take_snoc hx.out, withF_snoc, hF.out]; unfold withStep; simp only [hlt1, hnx]; simp)
            replace hlt1 := hide hlt1
            replace O9 := hide O9
            go_wp2
            refine ⟨?_, ?_⟩
            · first
                | exact ⟨k + 1, (zs ++ [(e1, e2, e3)]), true, by omega, by go_num, rfl, hst, O9, T9⟩
                | ((repeat apply Exists.intro); exact ⟨⟨k + 1, (zs ++ [(e1, e2, e3)]), true, by omega, by go_num, rfl, hst, O9, T9⟩, rfl⟩)
            · first | (simp [intOf, lenV]; omega) | (simp [intOf]; omega) | (simp [intOf]; done)
    · have hlt' : ¬ (k : Int) < (m : Int) := by omega
      have hF2 := hF.out
      rw [List.take_of_length_le (by rw [← hm.out]; omega)] at hF2
      replace hF2 := hide hF2
      obtain ⟨A5, c5, hv5, -, -, -⟩ := O5.out.rd
      subst hv5
      obtain ⟨l5, hl5⟩ : ∃ l, l = zs.length := ⟨_, rfl⟩
      rw [← hl5] at O5 ⊢
      replace hl5 := hide hl5
      cases lb with
      | true =>
        have hv : Hid (y = zs) := hide (by rw [hy.out]; unfold withL; rw [hF2.out]; rfl)
        go_wp2
        go_ret
        exact ⟨_, rfl, by rw [hv.out]; exact O5.out.base_le hE0.size, hE0.trans (hB.mono hE0.size)⟩
      | false =>
        have hv : Hid (y = zs ++ [(e1, e2, e3)]) := hide (by rw [hy.out]; unfold withL; rw [hF2.out]; rfl)
        have Z3 := hide (X3.out.ext hB)
        have k30 := Z3.out.cell 0 (v := .int .i64 e1) rfl
        have k31 := Z3.out.cell 1 (v := .int .i64 e2) rfl
        have k32 := Z3.out.cell 2 (v := .int .i64 e3) rfl
        have s3 := Z3.out.lt
        replace O5 := O5.out
        have hon := own_new (base := 0) (e := 35) edgeE wr (e1, e2, e3) (World.heap wr).size rfl (Nat.zero_le _)
        obtain ⟨A4, c4, hv1, hr4, -, -⟩ := hon.rd
        injection hv1 with hv2 hv3 hv4
        subst hv2
        clear hon hv3 hv4
        replace hr4 := hide hr4
        have Oa := hide (O5.alloc (.cells (edgeE.cs (e1, e2, e3)).toArray 35))
        have hsz := hB.size
        have hEa := hide (hB.alloc hsz (.cells (edgeE.cs (e1, e2, e3)).toArray 35))
        go_wp2_with (at_builtin; refine wpList_app tyEdge rfl (.tmp 37) (.tmp 39) rfl rfl Oa.out rfl hr4.out rfl (by have := hlen.out; simp at this ⊢; omega) (by simp; omega) ?_)
        intro v9 w9 hown hg hne hnil
        have T9 : Below w0.heap.size w0 w9 := Own.below Oa.out hEa.out hg (by simp; omega)
        replace hown := hide hown
        clear hg hne hnil Oa hEa hr4 O5
        go_wp2
        go_ret
        exact ⟨_, rfl, by rw [hv.out]; exact hown.out.base_le hE0.size, hE0.trans (T9.mono hE0.size)⟩
end Go.Proofs.Ytoihankkldafoaa
