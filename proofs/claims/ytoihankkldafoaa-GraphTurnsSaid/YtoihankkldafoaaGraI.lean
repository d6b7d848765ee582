/- The document's Of, Reverse, Starts. -/
import Derived.Test.YtoihankkldafoaaGraH
namespace Go.Proofs.Ytoihankkldafoaa
open Go.RowKit

set_option maxHeartbeats 2000000 in
theorem refOf_any (n : Int) (A : Option Addr) (m c : Nat) (xs : List (Int × Int × Int)) (w : World) (h : Rd edgeE w.heap.size w A xs) (hm : m = xs.length) (hl : m ≤ 100000) :
    Calls Try.prog 16 #[.int .i64 n, .slice A m c] w fun e w' => ∃ v, e = .returned (.agg #[.int .i64 n, v]) ∧ Own edgeE 35 w.heap.size w' v (ofE xs) ∧ Ext w w' := by
  obtain ⟨y, hy⟩ : ∃ y, y = ofE xs := ⟨_, rfl⟩
  rw [← hy]
  replace hy := hide hy
  replace h := hide h
  replace hm := hide hm
  go_enter Try.func16, Try.ntmps16
  go_upto_region 2 with fail
  obtain ⟨w0, hw0⟩ : ∃ w0, w0 = (w.alloc (.cells #[.int .i64 0, .slice none 0 0] 24)).alloc (.cells #[.int .i64 n, .slice none 0 0] 24) := ⟨_, rfl⟩
  rw [← hw0]
  have hE0 : Ext w w0 := by rw [hw0]; exact ((Below.refl _ _).alloc (Nat.le_refl _) _).alloc (by simp) _
  have X4 : BoxN w0 w.heap.size 24 #[.int .i64 0, .slice none 0 0] := by rw [hw0]; exact (BoxN.new w _ _).alloc _
  have X5 : BoxN w0 (w.heap.size + 1) 24 #[.int .i64 n, .slice none 0 0] := by
    rw [hw0]
    have := BoxN.new (w.alloc (.cells #[.int .i64 0, .slice none 0 0] 24)) 24 #[.int .i64 n, .slice none 0 0]
    rw [World.size_alloc] at this
    exact this
  clear hw0
  obtain ⟨p4, hpa⟩ : ∃ b, b = w.heap.size := ⟨_, rfl⟩
  rw [← hpa] at X4 X5 ⊢
  obtain ⟨p5, hpb⟩ : ∃ b, b = p4 + 1 := ⟨_, rfl⟩
  rw [← hpb] at X5 ⊢
  have hle1 : w.heap.size ≤ p4 := by omega
  have hle2 : w.heap.size ≤ p5 := by omega
  have hne12 : p4 ≠ p5 := by omega
  clear hpa hpb
  replace X4 := hide X4
  replace X5 := hide X5
  go_wp2
  go_loopw [12] (fun i wr => ∃ (k n5 c5 : Nat) (A5 : Option Addr), k ≤ m ∧ i = .int .i64 k ∧ Hid (n5 = ((xs.take k).foldl withL []).length) ∧ Hid (Own edgeE 35 w.heap.size wr (.slice A5 n5 c5) ((xs.take k).foldl withL [])) ∧ Hid (BoxN wr p5 24 #[.int .i64 n, .slice A5 n5 c5]) ∧ Hid (BoxN wr p4 24 #[.int .i64 0, .slice none 0 0]) ∧ Ext w wr) (fun i _ => m - (intOf i).toNat)
  case atStart => exact ⟨0, 0, 0, none, Nat.zero_le _, rfl, hide rfl, hide Own.nil_, X5, X4, hE0⟩
  case round =>
    clear X4 X5 hE0
    obtain ⟨k, n5, c5, A5, hk, rfl, hn5, O5, X5, X4, hB⟩ := hrel
    by_cases hlt : k < m
    · have hlt' : (k : Int) < (m : Int) := by omega
      obtain ⟨b, off, rfl, hra⟩ := h.out.at_ (i := k) (by rw [← hm.out]; exact hlt)
      obtain ⟨⟨p1, p2, p3⟩, hx⟩ := get_some (xs := xs) (i := k) (by rw [← hm.out]; exact hlt)
      obtain ⟨hx1, hx2, hx3⟩ := (hra.below hB).edge hx
      have hb1 : b < wr.heap.size := Nat.lt_of_lt_of_le hra.1 hB.size
      replace hx := hide hx
      replace hra := hide hra
      go_upto_region 5 with fail
      obtain ⟨w1, hw1⟩ : ∃ x, x = World.alloc wr (.cells #[.int .i64 p1, .int .i64 p2, .int .i64 p3] 35) := ⟨_, rfl⟩
      rw [← hw1]
      have hE1 : Ext wr w1 := by rw [hw1]; exact (Below.refl _ _).alloc (Nat.le_refl _) _
      have X7 : BoxN w1 (World.heap wr).size 35 #[.int .i64 p1, .int .i64 p2, .int .i64 p3] := by rw [hw1]; exact BoxN.new _ _ _
      clear hw1
      obtain ⟨p7, hpe⟩ : ∃ b, b = (World.heap wr).size := ⟨_, rfl⟩
      rw [← hpe] at X7 ⊢
      clear hpe
      have hB1 := hB.trans (hE1.mono hB.size)
      clear hx1 hx2 hx3 hb1
      replace O5 := O5.out.ext hE1
      replace X5 := X5.out.ext hE1
      replace X4 := X4.out.ext hE1
      have hl5 : n5 ≤ 100000 := by rw [hn5.out]; have := with_len (xs.take k); rw [List.length_take] at this; omega
      have k70 := X7.cell 0 (v := .int .i64 p1) rfl
      have k71 := X7.cell 1 (v := .int .i64 p2) rfl
      have k72 := X7.cell 2 (v := .int .i64 p3) rfl
      have s7 := X7.lt
      have k50 := X5.cell 0 (v := .int .i64 n) rfl
      have k51 := X5.cell 1 (v := .slice A5 n5 c5) rfl
      have s5 := X5.lt
      obtain ⟨A5x, c5x, he5, r5, -, -⟩ := O5.rd
      rw [← hn5.out] at he5
      injection he5 with he51 he52 he53
      subst he51 he53
      clear he52
      go_wp2_with fail
      refine (with_any A5 n5 c5 p1 p2 p3 _ _ r5 hn5.out hl5).mono ?_
      rintro e w2 ⟨v, rfl, hO, hE2⟩
      have hst : Hid (((xs.take (k + 1)).foldl withL []) = withL ((xs.take k).foldl withL []) (p1, p2, p3)) := hide (by rw [take_snoc hx.out, List.foldl_append]; rfl)
      rw [← hst.out] at hO
      replace hO := hO.base_le hB1.size
      replace X5 := X5.ext hE2
      replace X4 := X4.ext hE2
      have hB2 := hB1.trans (hE2.mono hB1.size)
      clear hE2 r5 O5 k70 k71 k72 s7 k50 k51 s5 X7 hst hn5
      obtain ⟨A6, c6, rfl, -, -, -⟩ := hO.rd
      obtain ⟨n6, hn6⟩ : ∃ q, q = ((xs.take (k + 1)).foldl withL []).length := ⟨_, rfl⟩
      rw [← hn6] at hO ⊢
      replace hn6 := hide hn6
      have k50 := X5.cell 0 (v := .int .i64 n) rfl
      have k51 := X5.cell 1 (v := .slice A5 n5 c5) rfl
      have s5 := X5.lt
      have f5 := X5.free 1
      have O6 := hide (hO.setN X5 (by decide) 1 (.slice A6 n6 c6))
      have Y5 := hide (X5.set 1 (.slice A6 n6 c6))
      have Y4 := hide (X4.far (p := ⟨p5, 1, none⟩) hne12 (.slice A6 n6 c6))
      have B6 := hide (hB2.setCell (p := ⟨p5, 1, none⟩) hle2 (.slice A6 n6 c6))
      clear hO
      go_wp2
      refine ⟨?_, ?_⟩
      · first
          | exact ⟨k + 1, n6, c6, A6, by omega, by go_num, hn6, O6, Y5, Y4, B6.out⟩
          | ((repeat apply Exists.intro); exact ⟨⟨k + 1, n6, c6, A6, by omega, by go_num, hn6, O6, Y5, Y4, B6.out⟩, rfl⟩)
      · first | (simp [intOf, lenV]; omega) | (simp [intOf]; omega) | (simp [intOf]; done)
    · have hlt' : ¬ (k : Int) < (m : Int) := by omega
      have hv : Hid (y = ((xs.take k).foldl withL [])) := hide (by rw [hy.out, List.take_of_length_le (by rw [← hm.out]; omega), ofE_with])
      replace O5 := O5.out
      replace X5 := X5.out
      replace X4 := X4.out
      have k50 := X5.cell 0 (v := .int .i64 n) rfl
      have k51 := X5.cell 1 (v := .slice A5 n5 c5) rfl
      have s5 := X5.lt
      have k40 := X4.cell 0 (v := .int .i64 0) rfl
      have k41 := X4.cell 1 (v := .slice none 0 0) rfl
      have s4 := X4.lt
      have f40 := X4.free 0
      have f41 := X4.free 1
      go_wp2
      refine bodyPost_ret (results_cell_row rfl _ _ p4 24 #[.int .i64 n, .slice A5 n5 c5] _ _ rfl ((X4.set 0 (.int .i64 n)).set 1 (.slice A5 n5 c5)) Try.underlying24 rfl (by kernel_rfl)) rfl ?_
      exact ⟨_, rfl, by rw [hv.out]; exact (O5.setN X4 (by decide) 0 _).setN (X4.set 0 _) (by decide) 1 _, (hB.setCell (p := ⟨p4, 0, none⟩) hle1 _).setCell (p := ⟨p4, 1, none⟩) hle1 _⟩
def turn (x : Int × Int × Int) : Int × Int × Int := (x.2.1, x.1, x.2.2)
set_option maxHeartbeats 2000000 in
theorem refReverse_any (n : Int) (A : Option Addr) (m c : Nat) (xs : List (Int × Int × Int)) (w : World) (h : Rd edgeE w.heap.size w A xs) (hm : m = xs.length) (hl : m ≤ 100000) :
    Calls Try.prog 32 #[.agg #[.int .i64 n, .slice A m c]] w fun e w' => ∃ v, e = .returned (.agg #[.int .i64 n, v]) ∧ Own edgeE 35 w.heap.size w' v (ofE (xs.map turn)) ∧ Ext w w' := by
  replace h := hide h
  replace hm := hide hm
  go_enter Try.func32, Try.ntmps32
  go_upto_region 1 with fail
  obtain ⟨w0, hw0⟩ : ∃ w0, w0 = (w.alloc (.cells #[.int .i64 n, .slice A m c] 24)).alloc (.cells #[.int .i64 0, .slice none 0 0] 24) := ⟨_, rfl⟩
  rw [← hw0]
  have hE0 : Ext w w0 := by rw [hw0]; exact ((Below.refl _ _).alloc (Nat.le_refl _) _).alloc (by simp) _
  have X1 : BoxN w0 w.heap.size 24 #[.int .i64 n, .slice A m c] := by rw [hw0]; exact (BoxN.new w _ _).alloc _
  have X2 : BoxN w0 (w.heap.size + 1) 24 #[.int .i64 0, .slice none 0 0] := by
    rw [hw0]
    have := BoxN.new (w.alloc (.cells #[.int .i64 n, .slice A m c] 24)) 24 #[.int .i64 0, .slice none 0 0]
    rw [World.size_alloc] at this
    exact this
  clear hw0
  obtain ⟨p1b, hpa⟩ : ∃ b, b = w.heap.size := ⟨_, rfl⟩
  rw [← hpa] at X1 X2 ⊢
  obtain ⟨p2b, hpb⟩ : ∃ b, b = p1b + 1 := ⟨_, rfl⟩
  rw [← hpb] at X2 ⊢
  have hle1 : w.heap.size ≤ p1b := by omega
  have hle2 : w.heap.size ≤ p2b := by omega
  have hne12 : p1b ≠ p2b := by omega
  clear hpa hpb
  have k10 := X1.cell 0 (v := .int .i64 n) rfl
  have k11 := X1.cell 1 (v := .slice A m c) rfl
  have s1 := X1.lt
  replace X1 := hide X1
  replace X2 := hide X2
  go_wp2
  go_loopw [3, 9] (fun o i wr => ∃ k : Nat, k ≤ m ∧ i = .int .i64 k ∧ Hid (Own edgeE 35 w.heap.size wr o ((xs.take k).map turn)) ∧ Hid (BoxN wr p1b 24 #[.int .i64 n, .slice A m c]) ∧ Hid (BoxN wr p2b 24 #[.int .i64 0, .slice none 0 0]) ∧ Ext w wr) (fun _ i _ => m - (intOf i).toNat)
  case atStart => exact ⟨0, Nat.zero_le _, rfl, hide Own.nil_, X1, X2, hE0⟩
  case round =>
    clear X1 X2 hE0 k10 k11 s1
    obtain ⟨k, hk, rfl, O5, X1, X2, hB⟩ := hrel
    have hlen : Hid (((xs.take k).map turn).length ≤ 100000) := hide (by rw [List.length_map, List.length_take]; omega)
    obtain ⟨A5, c5, hv5, -, hc5, -⟩ := O5.out.rd
    subst hv5
    obtain ⟨l5, hl5⟩ : ∃ l, l = ((xs.take k).map turn).length := ⟨_, rfl⟩
    rw [← hl5] at O5 hc5 ⊢
    replace hl5 := hide hl5
    by_cases hlt : k < m
    · have hlt' : (k : Int) < (m : Int) := by omega
      obtain ⟨b, off, rfl, hra⟩ := h.out.at_ (i := k) (by rw [← hm.out]; exact hlt)
      obtain ⟨⟨p1, p2, p3⟩, hx⟩ := get_some (xs := xs) (i := k) (by rw [← hm.out]; exact hlt)
      obtain ⟨hx1, hx2, hx3⟩ := (hra.below hB).edge hx
      have hb1 : b < wr.heap.size := Nat.lt_of_lt_of_le hra.1 hB.size
      replace hx := hide hx
      replace hra := hide hra
      go_upto_region 5 with fail
      obtain ⟨w1, hw1⟩ : ∃ x, x = World.alloc wr (.cells #[.int .i64 p1, .int .i64 p2, .int .i64 p3] 35) := ⟨_, rfl⟩
      rw [← hw1]
      have hE1 : Ext wr w1 := by rw [hw1]; exact (Below.refl _ _).alloc (Nat.le_refl _) _
      have X7 : BoxN w1 (World.heap wr).size 35 #[.int .i64 p1, .int .i64 p2, .int .i64 p3] := by rw [hw1]; exact BoxN.new _ _ _
      clear hw1
      obtain ⟨p7, hpe⟩ : ∃ b, b = (World.heap wr).size := ⟨_, rfl⟩
      rw [← hpe] at X7 ⊢
      clear hpe
      have hB1 := hB.trans (hE1.mono hB.size)
      clear hx1 hx2 hx3 hb1
      replace O5 := O5.out.ext hE1
      replace X1 := X1.out.ext hE1
      replace X2 := X2.out.ext hE1
      have k70 := X7.cell 0 (v := .int .i64 p1) rfl
      have k71 := X7.cell 1 (v := .int .i64 p2) rfl
      have k72 := X7.cell 2 (v := .int .i64 p3) rfl
      have s7 := X7.lt
      have hst : Hid (((xs.take (k + 1)).map turn) = ((xs.take k).map turn) ++ [(p2, p1, p3)]) := hide (by rw [take_snoc hx.out, List.map_append]; rfl)
      have hon := own_new (base := 0) (e := 35) edgeE w1 (p2, p1, p3) (World.heap w1).size rfl (Nat.zero_le _)
      obtain ⟨A4, c4, hv1, hr4, -, -⟩ := hon.rd
      injection hv1 with hv2 hv3 hv4
      subst hv2
      clear hon hv3 hv4
      replace hr4 := hide hr4
      have Oa := hide (O5.alloc (.cells (edgeE.cs (p2, p1, p3)).toArray 35))
      have hsz := hB1.size
      have hEa := hide (hB1.alloc hsz (.cells (edgeE.cs (p2, p1, p3)).toArray 35))
      go_wp2_with (at_builtin; refine wpList_app tyEdge rfl (.tmp 13) (.tmp 21) rfl rfl Oa.out rfl hr4.out rfl (by have := hlen.out; simp at this ⊢; omega) (by simp; omega) ?_)
      intro v9 w9 hown hg hne hnil
      have T9 : Below w.heap.size w w9 := Own.below Oa.out hEa.out hg (by simp; omega)
      rw [← List.map_take, ← hst.out] at hown
      replace hown := hide hown
      have Y1 := hide ((X1.alloc (.cells (edgeE.cs (p2, p1, p3)).toArray 35)).app Oa.out hg (by decide))
      have Y2 := hide ((X2.alloc (.cells (edgeE.cs (p2, p1, p3)).toArray 35)).app Oa.out hg (by decide))
      clear hg hne hnil Oa hEa hr4 O5
      go_wp2
      refine ⟨?_, ?_⟩
      · first
          | exact ⟨k + 1, by omega, by go_num, hown, Y1, Y2, T9⟩
          | ((repeat apply Exists.intro); exact ⟨⟨k + 1, by omega, by go_num, hown, Y1, Y2, T9⟩, rfl⟩)
      · first | (simp [intOf, lenV]; omega) | (simp [intOf]; omega) | (simp [intOf]; done)
    · have hlt' : ¬ (k : Int) < (m : Int) := by omega
      have hkm : xs.take k = xs := List.take_of_length_le (by rw [← hm.out]; omega)
      rw [hkm] at O5 hl5
      have r5 := O5.out.rd
      obtain ⟨A5x, c5x, he5, r5, -, -⟩ := r5
      rw [← hl5.out] at he5
      injection he5 with he51 he52 he53
      subst he51 he53
      clear he52 hkm
      have hl5b : l5 ≤ 100000 := by rw [hl5.out, List.length_map, ← hm.out]; exact hl
      replace X1 := X1.out
      replace X2 := X2.out
      have k10 := X1.cell 0 (v := .int .i64 n) rfl
      have k11 := X1.cell 1 (v := .slice A m c) rfl
      have s1 := X1.lt
      go_wp2_with fail
      refine (refOf_any n A5 l5 c5 (xs.map turn) _ r5 hl5.out hl5b).mono ?_
      rintro e w2 ⟨v, rfl, hO, hE2⟩
      replace hO := hO.base_le hB.size
      replace X2 := X2.ext hE2
      have hB2 := hB.trans (hE2.mono hB.size)
      clear hE2 k10 k11 s1 O5 r5
      obtain ⟨A6, c6, rfl, -, -, -⟩ := hO.rd
      obtain ⟨l6, hl6⟩ : ∃ l, l = (ofE (xs.map turn)).length := ⟨_, rfl⟩
      rw [← hl6] at hO ⊢
      replace hl6 := hide hl6
      replace hO := hide hO
      have k20 := X2.cell 0 (v := .int .i64 0) rfl
      have k21 := X2.cell 1 (v := .slice none 0 0) rfl
      have s2 := X2.lt
      have f20 := X2.free 0
      have f21 := X2.free 1
      go_wp2
      refine bodyPost_ret (results_cell_row rfl _ _ p2b 24 #[.int .i64 n, .slice A6 l6 c6] _ _ rfl ((X2.set 0 (.int .i64 n)).set 1 (.slice A6 l6 c6)) Try.underlying24 rfl (by kernel_rfl)) rfl ?_
      exact ⟨_, rfl, (hO.out.setN X2 (by decide) 0 _).setN (X2.set 0 _) (by decide) 1 _, (hB2.setCell (p := ⟨p2b, 0, none⟩) hle2 _).setCell (p := ⟨p2b, 1, none⟩) hle2 _⟩
def cntB (xs : List (Int × Int × Int)) (v : Nat) : Nat := xs.countP fun x => decide (x.1 < (v : Int))
def starts (xs : List (Int × Int × Int)) (k : Nat) : List Int := (List.range k).map fun v => (cntB xs v : Int)
theorem starts_snoc (xs : List (Int × Int × Int)) (k : Nat) : starts xs (k + 1) = starts xs k ++ [(cntB xs k : Int)] := by unfold starts; rw [List.range_succ, List.map_append]; rfl
theorem starts_len (xs : List (Int × Int × Int)) (k : Nat) : (starts xs k).length = k := by unfold starts; simp
theorem cnt_snoc {xs : List (Int × Int × Int)} {l : Nat} {p1 p2 p3 : Int} (v : Nat) (h : xs[l]? = some (p1, p2, p3)) : cntB (xs.take (l + 1)) v = cntB (xs.take l) v + if p1 < (v : Int) then 1 else 0 := by unfold cntB; rw [take_snoc h, List.countP_append, List.countP_singleton]; simp
set_option maxHeartbeats 2000000 in
theorem refStarts_any (n : Nat) (hn : n ≤ 100000) (A : Option Addr) (m c : Nat) (xs : List (Int × Int × Int)) (w : World) (h : Rd edgeE w.heap.size w A xs) (hm : m = xs.length) (hl : m ≤ 100000) :
    Calls Try.prog 22 #[.agg #[.int .i64 (n : Int), .slice A m c]] w fun e w' => ∃ v, e = .returned v ∧ Own intE 3 w.heap.size w' v (starts xs (n + 1)) ∧ Ext w w' := by
  replace h := hide h
  replace hm := hide hm
  go_enter Try.func22, Try.ntmps22
  go_upto_region 1 with fail
  obtain ⟨w0, hw0⟩ : ∃ w0, w0 = w.alloc (.cells #[.int .i64 n, .slice A m c] 24) := ⟨_, rfl⟩
  rw [← hw0]
  have hE0 : Ext w w0 := by rw [hw0]; exact (Below.refl _ _).alloc (Nat.le_refl _) _
  have X1 : BoxG w0 w.heap.size n A m c := by rw [hw0]; exact BoxN.new w _ _
  clear hw0
  obtain ⟨pg, hpg⟩ : ∃ b, b = w.heap.size := ⟨_, rfl⟩
  rw [← hpg] at X1 ⊢
  clear hpg
  have k10 := X1.cell 0 (v := .int .i64 (n : Int)) rfl
  have k11 := X1.cell 1 (v := .slice A m c) rfl
  have s1 := X1.lt
  replace X1 := hide X1
  have e1 : IntKind.i64.wrap ((n : Int) + 1) = (n : Int) + 1 := IntWalk.i64_in _ (by omega)
  go_wp2
  go_loopw [3, 11] (fun o i wr => ∃ k : Nat, k ≤ n + 1 ∧ i = .int .i64 k ∧ Hid (Own intE 3 w.heap.size wr o (starts xs k)) ∧ Hid (BoxG wr pg n A m c) ∧ Ext w wr) (fun _ i _ => n + 1 - (intOf i).toNat)
  case atStart => exact ⟨0, Nat.zero_le _, rfl, hide Own.nil_, X1, hE0⟩
  case round =>
    clear X1 hE0 k10 k11 s1
    obtain ⟨k, hk, rfl, O5, X1, hB⟩ := hrel
    obtain ⟨A5, c5, hv5, -, -, -⟩ := O5.out.rd
    subst hv5
    have hl5 := starts_len xs k
    rw [hl5] at O5 ⊢
    replace hl5 := hide hl5
    by_cases hlt0 : k < n + 1
    · have hlt0' : (k : Int) < (n : Int) + 1 := by omega
      have k10 := X1.out.cell 0 (v := .int .i64 (n : Int)) rfl
      have k11 := X1.out.cell 1 (v := .slice A m c) rfl
      have s1 := X1.out.lt
      go_wp2
      go_loopw [5, 17] (fun q j wx => ∃ l cnt : Nat, l ≤ m ∧ j = .int .i64 l ∧ q = .int .i64 cnt ∧ cnt ≤ l ∧ Hid (cnt = cntB (xs.take l) k) ∧ Ext wr wx) (fun _ j _ => m - (intOf j).toNat)
      case atStart => exact ⟨0, 0, Nat.zero_le _, rfl, rfl, Nat.le_refl _, hide rfl, Below.refl _ _⟩
      case round =>
        clear k10 k11 s1
        obtain ⟨l, cnt, hll, rfl, rfl, hcl, hcnt, hW⟩ := hrel
        by_cases hlt : l < m
        · have hlt' : (l : Int) < (m : Int) := by omega
          obtain ⟨b, off, rfl, hra⟩ := h.out.at_ (i := l) (by rw [← hm.out]; exact hlt)
          obtain ⟨⟨p1, p2, p3⟩, hx⟩ := get_some (xs := xs) (i := l) (by rw [← hm.out]; exact hlt)
          obtain ⟨hx1, hx2, hx3⟩ := ((hra.below hB).below (hW.mono hB.size)).edge hx
          have hb1 := Nat.lt_of_lt_of_le hra.1 (Nat.le_trans hB.size hW.size)
          replace hra := hide hra
          have hcs := cnt_snoc k hx
          replace hx := hide hx
          go_upto_region 9 with fail
          obtain ⟨w1, hw1⟩ : ∃ x, x = World.alloc wr (.cells #[.int .i64 p1, .int .i64 p2, .int .i64 p3] 35) := ⟨_, rfl⟩
          rw [← hw1]
          have hE1 : Ext wr w1 := by rw [hw1]; exact (Below.refl _ _).alloc (Nat.le_refl _) _
          have X7 : BoxN w1 (World.heap wr).size 35 #[.int .i64 p1, .int .i64 p2, .int .i64 p3] := by rw [hw1]; exact BoxN.new _ _ _
          clear hw1
          obtain ⟨p7, hpe⟩ : ∃ b, b = (World.heap wr).size := ⟨_, rfl⟩
          rw [← hpe] at X7 ⊢
          clear hpe
          have hW1 := hW.trans (hE1.mono hW.size)
          clear hx1 hx2 hx3 hb1
          have k70 := X7.cell 0 (v := .int .i64 p1) rfl
          have k71 := X7.cell 1 (v := .int .i64 p2) rfl
          have k72 := X7.cell 2 (v := .int .i64 p3) rfl
          have s7 := X7.lt
          by_cases hp : p1 < (k : Int)
          · have hc2 : Hid (cnt + 1 = cntB (xs.take (l + 1)) k) := hide (by rw [hcs, if_pos hp, ← hcnt.out])
            clear hcs
            go_wp2
            refine ⟨?_, ?_⟩
            · first
                | exact ⟨l + 1, cnt + 1, by omega, by go_num, by go_num, by omega, hc2, hW1⟩
                | ((repeat apply Exists.intro); exact ⟨⟨l + 1, cnt + 1, by omega, by go_num, by go_num, by omega, hc2, hW1⟩, rfl⟩)
            · first | (simp [intOf, lenV]; omega) | (simp [intOf]; omega) | (simp [intOf]; done)
          · have hc2 : Hid (cnt = cntB (xs.take (l + 1)) k) := hide (by rw [hcs, if_neg hp, ← hcnt.out, Nat.add_zero])
            clear hcs
            go_wp2
            refine ⟨?_, ?_⟩
            · first
                | exact ⟨l + 1, cnt, by omega, by go_num, rfl, by omega, hc2, hW1⟩
                | ((repeat apply Exists.intro); exact ⟨⟨l + 1, cnt, by omega, by go_num, rfl, by omega, hc2, hW1⟩, rfl⟩)
            · first | (simp [intOf, lenV]; omega) | (simp [intOf]; omega) | (simp [intOf]; done)
        · have hlt' : ¬ (l : Int) < (m : Int) := by omega
          have hst : Hid (starts xs (k + 1) = starts xs k ++ [(cnt : Int)]) := hide (by rw [starts_snoc, hcnt.out, List.take_of_length_le (by rw [← hm.out]; omega)])
          have hB1 := hB.trans (hW.mono hB.size)
          replace O5 := O5.out.ext hW
          replace X1 := X1.out.ext hW
          have hlen : Hid ((starts xs k).length ≤ 200000) := hide (by rw [hl5.out]; omega)
          have hon := own_new (base := 0) (e := 3) intE wr (cnt : Int) (World.heap wr).size rfl (Nat.zero_le _)
          obtain ⟨A4, c4, hv1, hr4, -, -⟩ := hon.rd
          injection hv1 with hv2 hv3 hv4
          subst hv2
          clear hon hv3 hv4
          replace hr4 := hide hr4
          have Oa := hide (O5.alloc (.cells (intE.cs (cnt : Int)).toArray 3))
          have hsz := hB1.size
          have hEa := hide (hB1.alloc hsz (.cells (intE.cs (cnt : Int)).toArray 3))
          go_wp2_with (at_builtin; refine wpList_app tyInt rfl (.tmp 28) (.tmp 30) rfl rfl Oa.out rfl hr4.out rfl (by have := hlen.out; simp at this ⊢; omega) (by simp; omega) ?_)
          intro v9 w9 hown hg hne hnil
          have T9 : Below w.heap.size w w9 := Own.below Oa.out hEa.out hg (by simp; omega)
          rw [← hst.out] at hown
          replace hown := hide hown
          have Y1 := hide ((X1.alloc (.cells (intE.cs (cnt : Int)).toArray 3)).app Oa.out hg (by decide))
          clear hg hne hnil Oa hEa hr4 O5
          go_wp2
          refine ⟨?_, ?_⟩
          · first
              | exact ⟨k + 1, by omega, by go_num, hown, Y1, T9⟩
              | ((repeat apply Exists.intro); exact ⟨⟨k + 1, by omega, by go_num, hown, Y1, T9⟩, rfl⟩)
          · first | (simp [intOf, lenV]; omega) | (simp [intOf]; omega) | (simp [intOf]; done)
    · have hlt0' : ¬ (k : Int) < (n : Int) + 1 := by omega
      obtain rfl : k = n + 1 := by omega
      go_wp2
      go_ret
      exact ⟨_, rfl, O5.out, hB⟩
end Go.Proofs.Ytoihankkldafoaa
