/- The document's Out, In, Kinds, Reverse, Starts, With, Of. -/
import Derived.Test.YtoihankkldafoaaGraF
namespace Go.Proofs.Ytoihankkldafoaa
open Go.RowKit

set_option maxHeartbeats 2000000 in
theorem refOut_any (n v : Int) (A : Option Addr) (m c : Nat) (xs : List (Int × Int × Int)) (w : World) (h : Rd edgeE w.heap.size w A xs) (hm : m = xs.length) (hl : m ≤ 100000) :
    Calls Try.prog 25 #[.agg #[.int .i64 n, .slice A m c], .int .i64 v] w fun e w' => ∃ u, e = .returned u ∧ Own edgeE 35 w.heap.size w' u (xs.filter fun x => decide (x.1 = v)) ∧ Ext w w' := by
  replace h := hide h
  replace hm := hide hm
  go_enter Try.func25, Try.ntmps25
  go_upto_region 1 with fail
  obtain ⟨w0, hw0⟩ : ∃ w0, w0 = w.alloc (.cells #[.int .i64 n, .slice A m c] 24) := ⟨_, rfl⟩
  rw [← hw0]
  have hE0 : Ext w w0 := by rw [hw0]; exact (Below.refl _ _).alloc (Nat.le_refl _) _
  have X1 : BoxG w0 w.heap.size n A m c := by rw [hw0]; exact BoxN.new w _ _
  clear hw0
  obtain ⟨pg, hpg⟩ : ∃ b, b = w.heap.size := ⟨_, rfl⟩
  rw [← hpg] at X1 ⊢
  clear hpg
  have k10 := X1.cell 0 (v := .int .i64 n) rfl
  have k11 := X1.cell 1 (v := .slice A m c) rfl
  have s1 := X1.lt
  replace X1 := hide X1
  go_wp2
  go_loopw [5, 11] (fun o i wr => ∃ k : Nat, k ≤ m ∧ i = .int .i64 k ∧ Hid (Own edgeE 35 w.heap.size wr o ((xs.take k).filter fun x => decide (x.1 = v))) ∧ Ext w wr) (fun _ i _ => m - (intOf i).toNat)
  case atStart => exact ⟨0, Nat.zero_le _, rfl, hide Own.nil_, hE0⟩
  case round =>
    clear X1 hE0 k10 k11 s1
    obtain ⟨k, hk, rfl, O5, hB⟩ := hrel
    by_cases hlt : k < m
    · have hlt' : (k : Int) < (m : Int) := by omega
      obtain ⟨b, off, rfl, hra⟩ := h.out.at_ (i := k) (by rw [← hm.out]; exact hlt)
      obtain ⟨⟨p1, p2, p3⟩, hx⟩ := get_some (xs := xs) (i := k) (by rw [← hm.out]; exact hlt)
      obtain ⟨hx1, hx2, hx3⟩ := (hra.below hB).edge hx
      have hb1 : b < wr.heap.size := Nat.lt_of_lt_of_le hra.1 hB.size
      replace hx := hide hx
      replace hra := hide hra
      go_upto_region 5 with fail
      obtain ⟨w1, hw1⟩ : ∃ x, x = World.alloc wr (.cells #[.int .i64 p1, .int .i64 p2, .int .i64 p3] 35) := ⟨_, rfl⟩
      rw [← hw1]
      have hE1 : Ext wr w1 := by rw [hw1]; exact (Below.refl _ _).alloc (Nat.le_refl _) _
      have X4 : BoxN w1 (World.heap wr).size 35 #[.int .i64 p1, .int .i64 p2, .int .i64 p3] := by rw [hw1]; exact BoxN.new _ _ _
      clear hw1
      obtain ⟨p4, hpe⟩ : ∃ b, b = (World.heap wr).size := ⟨_, rfl⟩
      rw [← hpe] at X4 ⊢
      clear hpe
      have hB1 := hB.trans (hE1.mono hB.size)
      clear hx1 hx2 hx3 hb1
      replace O5 := O5.out.ext hE1
      have k40 := X4.cell 0 (v := .int .i64 p1) rfl
      have k41 := X4.cell 1 (v := .int .i64 p2) rfl
      have k42 := X4.cell 2 (v := .int .i64 p3) rfl
      have s4 := X4.lt
      have hlen : Hid (((xs.take k).filter fun x => decide (x.1 = v)).length ≤ 100000) := hide (Nat.le_trans (List.length_filter_le _ _) (by rw [List.length_take]; omega))
      obtain ⟨A5, c5, hv5, -, -, -⟩ := O5.rd
      subst hv5
      obtain ⟨l5, hl5⟩ : ∃ l, l = ((xs.take k).filter fun x => decide (x.1 = v)).length := ⟨_, rfl⟩
      rw [← hl5] at O5 ⊢
      replace hl5 := hide hl5
      by_cases hp : p1 = v
      · have hp' : (p1 == v) = true := by simp [hp]
        have hst : Hid ((xs.take (k + 1)).filter (fun x => decide (x.1 = v)) = (xs.take k).filter (fun x => decide (x.1 = v)) ++ [(p1, p2, p3)]) := hide (by rw [take_snoc hx.out, List.filter_append]; simp [hp])
        replace hp := hide hp
        have hon := own_new (base := 0) (e := 35) edgeE w1 (p1, p2, p3) (World.heap w1).size rfl (Nat.zero_le _)
        obtain ⟨A4, c4, hv1, hr4, -, -⟩ := hon.rd
        injection hv1 with hv2 hv3 hv4
        subst hv2
        clear hon hv3 hv4
        replace hr4 := hide hr4
        have Oa := hide (O5.alloc (.cells (edgeE.cs (p1, p2, p3)).toArray 35))
        have hsz := hB1.size
        have hEa := hide (hB1.alloc hsz (.cells (edgeE.cs (p1, p2, p3)).toArray 35))
        go_wp2_with (at_builtin; refine wpList_app tyEdge rfl (.tmp 19) (.tmp 21) rfl rfl Oa.out rfl hr4.out rfl (by have := hlen.out; simp at this ⊢; omega) (by simp; omega) ?_)
        intro v9 w9 hown hg hne hnil
        have hB9 : Below w.heap.size w w9 := Own.below Oa.out hEa.out hg (by simp; omega)
        rw [← hst.out] at hown
        replace hown := hide hown
        clear hg hne hnil Oa hEa hr4 O5
        go_wp2
        refine ⟨?_, ?_⟩
        · first
            | exact ⟨k + 1, by omega, by go_num, hown, hB9⟩
            | ((repeat apply Exists.intro); exact ⟨⟨k + 1, by omega, by go_num, hown, hB9⟩, rfl⟩)
        · first | (simp [intOf, lenV]; omega) | (simp [intOf]; omega) | (simp [intOf]; done)
      · have hp' : (p1 == v) = false := by simp [hp]
        have hst : Hid ((xs.take (k + 1)).filter (fun x => decide (x.1 = v)) = (xs.take k).filter (fun x => decide (x.1 = v))) := hide (by rw [take_snoc hx.out, List.filter_append]; simp [hp])
        replace hp := hide hp
        have hown := hide (show Own edgeE 35 w.heap.size w1 (.slice A5 l5 c5) ((xs.take (k + 1)).filter fun x => decide (x.1 = v)) by rw [hst.out]; exact O5)
        clear O5
        go_wp2
        refine ⟨?_, ?_⟩
        · first
            | exact ⟨k + 1, by omega, by go_num, hown, hB1⟩
            | ((repeat apply Exists.intro); exact ⟨⟨k + 1, by omega, by go_num, hown, hB1⟩, rfl⟩)
        · first | (simp [intOf, lenV]; omega) | (simp [intOf]; omega) | (simp [intOf]; done)
    · have hlt' : ¬ (k : Int) < (m : Int) := by omega
      have hown := O5.out
      rw [List.take_of_length_le (by rw [← hm.out]; omega)] at hown
      replace hown := hide hown
      clear O5
      go_wp2
      go_ret
      exact ⟨_, rfl, hown.out, hB⟩
set_option maxHeartbeats 2000000 in
theorem refIn_any (n v : Int) (A : Option Addr) (m c : Nat) (xs : List (Int × Int × Int)) (w : World) (h : Rd edgeE w.heap.size w A xs) (hm : m = xs.length) (hl : m ≤ 100000) :
    Calls Try.prog 26 #[.agg #[.int .i64 n, .slice A m c], .int .i64 v] w fun e w' => ∃ u, e = .returned u ∧ Own edgeE 35 w.heap.size w' u (xs.filter fun x => decide (x.2.1 = v)) ∧ Ext w w' := by
  replace h := hide h
  replace hm := hide hm
  go_enter Try.func26, Try.ntmps26
  go_upto_region 1 with fail
  obtain ⟨w0, hw0⟩ : ∃ w0, w0 = w.alloc (.cells #[.int .i64 n, .slice A m c] 24) := ⟨_, rfl⟩
  rw [← hw0]
  have hE0 : Ext w w0 := by rw [hw0]; exact (Below.refl _ _).alloc (Nat.le_refl _) _
  have X1 : BoxG w0 w.heap.size n A m c := by rw [hw0]; exact BoxN.new w _ _
  clear hw0
  obtain ⟨pg, hpg⟩ : ∃ b, b = w.heap.size := ⟨_, rfl⟩
  rw [← hpg] at X1 ⊢
  clear hpg
  have k10 := X1.cell 0 (v := .int .i64 n) rfl
  have k11 := X1.cell 1 (v := .slice A m c) rfl
  have s1 := X1.lt
  replace X1 := hide X1
  go_wp2
  go_loopw [5, 11] (fun o i wr => ∃ k : Nat, k ≤ m ∧ i = .int .i64 k ∧ Hid (Own edgeE 35 w.heap.size wr o ((xs.take k).filter fun x => decide (x.2.1 = v))) ∧ Ext w wr) (fun _ i _ => m - (intOf i).toNat)
  case atStart => exact ⟨0, Nat.zero_le _, rfl, hide Own.nil_, hE0⟩
  case round =>
    clear X1 hE0 k10 k11 s1
    obtain ⟨k, hk, rfl, O5, hB⟩ := hrel
    by_cases hlt : k < m
    · have hlt' : (k : Int) < (m : Int) := by omega
      obtain ⟨b, off, rfl, hra⟩ := h.out.at_ (i := k) (by rw [← hm.out]; exact hlt)
      obtain ⟨⟨p1, p2, p3⟩, hx⟩ := get_some (xs := xs) (i := k) (by rw [← hm.out]; exact hlt)
      obtain ⟨hx1, hx2, hx3⟩ := (hra.below hB).edge hx
      have hb1 : b < wr.heap.size := Nat.lt_of_lt_of_le hra.1 hB.size
      replace hx := hide hx
      replace hra := hide hra
      go_upto_region 5 with fail
      obtain ⟨w1, hw1⟩ : ∃ x, x = World.alloc wr (.cells #[.int .i64 p1, .int .i64 p2, .int .i64 p3] 35) := ⟨_, rfl⟩
      rw [← hw1]
      have hE1 : Ext wr w1 := by rw [hw1]; exact (Below.refl _ _).alloc (Nat.le_refl _) _
      have X4 : BoxN w1 (World.heap wr).size 35 #[.int .i64 p1, .int .i64 p2, .int .i64 p3] := by rw [hw1]; exact BoxN.new _ _ _
      clear hw1
      obtain ⟨p4, hpe⟩ : ∃ b, b = (World.heap wr).size := ⟨_, rfl⟩
      rw [← hpe] at X4 ⊢
      clear hpe
      have hB1 := hB.trans (hE1.mono hB.size)
      clear hx1 hx2 hx3 hb1
      replace O5 := O5.out.ext hE1
      have k40 := X4.cell 0 (v := .int .i64 p1) rfl
      have k41 := X4.cell 1 (v := .int .i64 p2) rfl
      have k42 := X4.cell 2 (v := .int .i64 p3) rfl
      have s4 := X4.lt
      have hlen : Hid (((xs.take k).filter fun x => decide (x.2.1 = v)).length ≤ 100000) := hide (Nat.le_trans (List.length_filter_le _ _) (by rw [List.length_take]; omega))
      obtain ⟨A5, c5, hv5, -, -, -⟩ := O5.rd
      subst hv5
      obtain ⟨l5, hl5⟩ : ∃ l, l = ((xs.take k).filter fun x => decide (x.2.1 = v)).length := ⟨_, rfl⟩
      rw [← hl5] at O5 ⊢
      replace hl5 := hide hl5
      by_cases hp : p2 = v
      · have hp' : (p2 == v) = true := by simp [hp]
        have hst : Hid ((xs.take (k + 1)).filter (fun x => decide (x.2.1 = v)) = (xs.take k).filter (fun x => decide (x.2.1 = v)) ++ [(p1, p2, p3)]) := hide (by rw [take_snoc hx.out, List.filter_append]; simp [hp])
        replace hp := hide hp
        have hon := own_new (base := 0) (e := 35) edgeE w1 (p1, p2, p3) (World.heap w1).size rfl (Nat.zero_le _)
        obtain ⟨A4, c4, hv1, hr4, -, -⟩ := hon.rd
        injection hv1 with hv2 hv3 hv4
        subst hv2
        clear hon hv3 hv4
        replace hr4 := hide hr4
        have Oa := hide (O5.alloc (.cells (edgeE.cs (p1, p2, p3)).toArray 35))
        have hsz := hB1.size
        have hEa := hide (hB1.alloc hsz (.cells (edgeE.cs (p1, p2, p3)).toArray 35))
        go_wp2_with (at_builtin; refine wpList_app tyEdge rfl (.tmp 19) (.tmp 21) rfl rfl Oa.out rfl hr4.out rfl (by have := hlen.out; simp at this ⊢; omega) (by simp; omega) ?_)
        intro v9 w9 hown hg hne hnil
        have hB9 : Below w.heap.size w w9 := Own.below Oa.out hEa.out hg (by simp; omega)
        rw [← hst.out] at hown
        replace hown := hide hown
        clear hg hne hnil Oa hEa hr4 O5
        go_wp2
        refine ⟨?_, ?_⟩
        · first
            | exact ⟨k + 1, by omega, by go_num, hown, hB9⟩
            | ((repeat apply Exists.intro); exact ⟨⟨k + 1, by omega, by go_num, hown, hB9⟩, rfl⟩)
        · first | (simp [intOf, lenV]; omega) | (simp [intOf]; omega) | (simp [intOf]; done)
      · have hp' : (p2 == v) = false := by simp [hp]
        have hst : Hid ((xs.take (k + 1)).filter (fun x => decide (x.2.1 = v)) = (xs.take k).filter (fun x => decide (x.2.1 = v))) := hide (by rw [take_snoc hx.out, List.filter_append]; simp [hp])
        replace hp := hide hp
        have hown := hide (show Own edgeE 35 w.heap.size w1 (.slice A5 l5 c5) ((xs.take (k + 1)).filter fun x => decide (x.2.1 = v)) by rw [hst.out]; exact O5)
        clear O5
        go_wp2
        refine ⟨?_, ?_⟩
        · first
            | exact ⟨k + 1, by omega, by go_num, hown, hB1⟩
            | ((repeat apply Exists.intro); exact ⟨⟨k + 1, by omega, by go_num, hown, hB1⟩, rfl⟩)
        · first | (simp [intOf, lenV]; omega) | (simp [intOf]; omega) | (simp [intOf]; done)
    · have hlt' : ¬ (k : Int) < (m : Int) := by omega
      have hown := O5.out
      rw [List.take_of_length_le (by rw [← hm.out]; omega)] at hown
      replace hown := hide hown
      clear O5
      go_wp2
      go_ret
      exact ⟨_, rfl, hown.out, hB⟩
set_option maxHeartbeats 2000000 in
theorem refKinds_any (n u v : Int) (A : Option Addr) (m c : Nat) (xs : List (Int × Int × Int)) (w : World) (h : Rd edgeE w.heap.size w A xs) (hm : m = xs.length) (hl : m ≤ 100000) :
    Calls Try.prog 28 #[.agg #[.int .i64 n, .slice A m c], .int .i64 u, .int .i64 v] w fun e w' => ∃ r, e = .returned r ∧ Own intE 3 w.heap.size w' r ((xs.filter fun x => decide (x.1 = u) && decide (x.2.1 = v)).map fun x => x.2.2) ∧ Ext w w' := by
  replace h := hide h
  replace hm := hide hm
  go_enter Try.func28, Try.ntmps28
  go_upto_region 1 with fail
  obtain ⟨w0, hw0⟩ : ∃ w0, w0 = w.alloc (.cells #[.int .i64 n, .slice A m c] 24) := ⟨_, rfl⟩
  rw [← hw0]
  have hE0 : Ext w w0 := by rw [hw0]; exact (Below.refl _ _).alloc (Nat.le_refl _) _
  have X1 : BoxG w0 w.heap.size n A m c := by rw [hw0]; exact BoxN.new w _ _
  clear hw0
  obtain ⟨pg, hpg⟩ : ∃ b, b = w.heap.size := ⟨_, rfl⟩
  rw [← hpg] at X1 ⊢
  clear hpg
  have k10 := X1.cell 0 (v := .int .i64 n) rfl
  have k11 := X1.cell 1 (v := .slice A m c) rfl
  have s1 := X1.lt
  replace X1 := hide X1
  go_wp2
  go_loopw [7, 13] (fun o i wr => ∃ k : Nat, k ≤ m ∧ i = .int .i64 k ∧ Hid (Own intE 3 w.heap.size wr o (((xs.take k).filter fun x => decide (x.1 = u) && decide (x.2.1 = v)).map fun x => x.2.2)) ∧ Ext w wr) (fun _ i _ => m - (intOf i).toNat)
  case atStart => exact ⟨0, Nat.zero_le _, rfl, hide Own.nil_, hE0⟩
  case round =>
    clear X1 hE0 k10 k11 s1
    obtain ⟨k, hk, rfl, O5, hB⟩ := hrel
    by_cases hlt : k < m
    · have hlt' : (k : Int) < (m : Int) := by omega
      obtain ⟨b, off, rfl, hra⟩ := h.out.at_ (i := k) (by rw [← hm.out]; exact hlt)
      obtain ⟨⟨p1, p2, p3⟩, hx⟩ := get_some (xs := xs) (i := k) (by rw [← hm.out]; exact hlt)
      obtain ⟨hx1, hx2, hx3⟩ := (hra.below hB).edge hx
      have hb1 : b < wr.heap.size := Nat.lt_of_lt_of_le hra.1 hB.size
      replace hx := hide hx
      replace hra := hide hra
      go_upto_region 5 with fail
      obtain ⟨w1, hw1⟩ : ∃ x, x = World.alloc wr (.cells #[.int .i64 p1, .int .i64 p2, .int .i64 p3] 35) := ⟨_, rfl⟩
      rw [← hw1]
      have hE1 : Ext wr w1 := by rw [hw1]; exact (Below.refl _ _).alloc (Nat.le_refl _) _
      have X4 : BoxN w1 (World.heap wr).size 35 #[.int .i64 p1, .int .i64 p2, .int .i64 p3] := by rw [hw1]; exact BoxN.new _ _ _
      clear hw1
      obtain ⟨p4, hpe⟩ : ∃ b, b = (World.heap wr).size := ⟨_, rfl⟩
      rw [← hpe] at X4 ⊢
      clear hpe
      have hB1 := hB.trans (hE1.mono hB.size)
      clear hx1 hx2 hx3 hb1
      replace O5 := O5.out.ext hE1
      have k40 := X4.cell 0 (v := .int .i64 p1) rfl
      have k41 := X4.cell 1 (v := .int .i64 p2) rfl
      have k42 := X4.cell 2 (v := .int .i64 p3) rfl
      have s4 := X4.lt
      have hlen : Hid ((((xs.take k).filter fun x => decide (x.1 = u) && decide (x.2.1 = v)).map fun x => x.2.2).length ≤ 100000) := hide (by rw [List.length_map]; exact Nat.le_trans (List.length_filter_le _ _) (by rw [List.length_take]; omega))
      obtain ⟨A5, c5, hv5, -, -, -⟩ := O5.rd
      subst hv5
      obtain ⟨zs, hzs⟩ : ∃ z, z = (((xs.take k).filter fun x => decide (x.1 = u) && decide (x.2.1 = v)).map fun x => x.2.2) := ⟨_, rfl⟩
      rw [← hzs] at O5 hlen ⊢
      obtain ⟨l5, hl5⟩ : ∃ l, l = zs.length := ⟨_, rfl⟩
      rw [← hl5] at O5 ⊢
      replace hl5 := hide hl5
      by_cases hp : p1 = u
      · have hp' : (p1 == u) = true := by simp [hp]
        by_cases hp2 : p2 = v
        · have hp2' : (p2 == v) = true := by simp [hp2]
          have hst : Hid ((((xs.take (k + 1)).filter fun x => decide (x.1 = u) && decide (x.2.1 = v)).map fun x => x.2.2) = zs ++ [p3]) := hide (by rw [hzs, take_snoc hx.out, List.filter_append, List.map_append]; simp [hp, hp2])
          replace hp := hide hp
          replace hp2 := hide hp2
          clear hzs
          have X4b := hide X4
          have hon := own_new (base := 0) (e := 3) intE w1 p3 (World.heap w1).size rfl (Nat.zero_le _)
          obtain ⟨A4, c4, hv1, hr4, -, -⟩ := hon.rd
          injection hv1 with hv2 hv3 hv4
          subst hv2
          clear hon hv3 hv4
          replace hr4 := hide hr4
          have Oa := hide (O5.alloc (.cells (intE.cs p3).toArray 3))
          have hsz := hB1.size
          have hEa := hide (hB1.alloc hsz (.cells (intE.cs p3).toArray 3))
          go_wp2_with (at_builtin; refine wpList_app tyInt rfl (.tmp 27) (.tmp 30) rfl rfl Oa.out rfl hr4.out rfl (by have := hlen.out; simp at this ⊢; omega) (by simp; omega) ?_)
          intro v9 w9 hown hg hne hnil
          have hB9 : Below w.heap.size w w9 := Own.below Oa.out hEa.out hg (by simp; omega)
          rw [← hst.out] at hown
          replace hown := hide hown
          clear hg hne hnil Oa hEa hr4 O5
          go_wp2
          refine ⟨?_, ?_⟩
          · first
              | exact ⟨k + 1, by omega, by go_num, hown, hB9⟩
              | ((repeat apply Exists.intro); exact ⟨⟨k + 1, by omega, by go_num, hown, hB9⟩, rfl⟩)
          · first | (simp [intOf, lenV]; omega) | (simp [intOf]; omega) | (simp [intOf]; done)
        · have hp2' : (p2 == v) = false := by simp [hp2]
          have hst : Hid ((((xs.take (k + 1)).filter fun x => decide (x.1 = u) && decide (x.2.1 = v)).map fun x => x.2.2) = zs) := hide (by rw [hzs, take_snoc hx.out, List.filter_append]; simp [hp2])
          replace hp := hide hp
          have hown := hide (show Own intE 3 w.heap.size w1 (.slice A5 l5 c5) (((xs.take (k + 1)).filter fun x => decide (x.1 = u) && decide (x.2.1 = v)).map fun x => x.2.2) by rw [hst.out]; exact O5)
          clear O5 hzs
          go_wp2
          refine ⟨?_, ?_⟩
          · first
              | exact ⟨k + 1, by omega, by go_num, hown, hB1⟩
              | ((repeat apply Exists.intro); exact ⟨⟨k + 1, by omega, by go_num, hown, hB1⟩, rfl⟩)
          · first | (simp [intOf, lenV]; omega) | (simp [intOf]; omega) | (simp [intOf]; done)
      · have hp' : (p1 == u) = false := by simp [hp]
        have hst : Hid ((((xs.take (k + 1)).filter fun x => decide (x.1 = u) && decide (x.2.1 = v)).map fun x => x.2.2) = zs) := hide (by rw [hzs, take_snoc hx.out, List.filter_append]; simp [hp])
        replace hp := hide hp
        have hown := hide (show Own intE 3 w.heap.size w1 (.slice A5 l5 c5) (((xs.take (k + 1)).filter fun x => decide (x.1 = u) && decide (x.2.1 = v)).map fun x => x.2.2) by rw [hst.out]; exact O5)
        clear O5 hzs
        go_wp2
        refine ⟨?_, ?_⟩
        · first
            | exact ⟨k + 1, by omega, by go_num, hown, hB1⟩
            | ((repeat apply Exists.intro); exact ⟨⟨k + 1, by omega, by go_num, hown, hB1⟩, rfl⟩)
        · first | (simp [intOf, lenV]; omega) | (simp [intOf]; omega) | (simp [intOf]; done)
    · have hlt' : ¬ (k : Int) < (m : Int) := by omega
      have hown := O5.out
      rw [List.take_of_length_le (by rw [← hm.out]; omega)] at hown
      replace hown := hide hown
      clear O5
      go_wp2
      go_ret
      exact ⟨_, rfl, hown.out, hB⟩
end Go.Proofs.Ytoihankkldafoaa
