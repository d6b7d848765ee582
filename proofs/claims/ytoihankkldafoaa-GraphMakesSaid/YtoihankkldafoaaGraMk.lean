/- GraphMakes: the walk. -/
import Derived.Test.YtoihankkldafoaaGraX
import Derived.Test.YtoihankkldafoaaFlt
namespace Go.Proofs.Ytoihankkldafoaa
open Go.RowKit

theorem ofG_ref (nodes : Int) (l : List (Int × Int × Int)) (h : okOf nodes l = true) : ofN nodes l = nodes ∧ ofR nodes l = 0 ∧ ofL nodes l = ofE l := of_yes h
theorem index_g0 (w : World) (g1 g2 : Int) (A1 A2 : Option Addr) (m1 c1 m2 c2 : Nat) : (Instr.index 25 (.agg #[.int .i64 g1, .slice A1 m1 c1, .int .i64 g2, .slice A2 m2 c2]) (.int .i64 0)).run Try.prog w = .ok (.agg #[.int .i64 g1, .slice A1 m1 c1]) w := by kernel_rfl
theorem index_g1 (w : World) (g1 g2 : Int) (A1 A2 : Option Addr) (m1 c1 m2 c2 : Nat) : (Instr.index 25 (.agg #[.int .i64 g1, .slice A1 m1 c1, .int .i64 g2, .slice A2 m2 c2]) (.int .i64 1)).run Try.prog w = .ok (.agg #[.int .i64 g2, .slice A2 m2 c2]) w := by kernel_rfl
set_option maxRecDepth 100000 in
set_option maxHeartbeats 8000000 in
theorem graphMakes_any (g1 g2 nodes : Int) (A1 A2 A3 : Option Addr) (m1 c1 m2 c2 m3 c3 : Nat) (xs ys zs : List (Int × Int × Int)) (w : World) (hm1 : m1 = xs.length) (hc1 : m1 ≤ c1) (h1 : Rd edgeE w.heap.size w A1 xs) (hm2 : m2 = ys.length) (hc2 : m2 ≤ c2) (h2 : Rd edgeE w.heap.size w A2 ys) (hm3 : m3 = zs.length) (hc3 : m3 ≤ c3) (h3 : Rd edgeE w.heap.size w A3 zs) :
    Calls Try.prog 3 #[.agg #[.int .i64 g1, .slice A1 m1 c1, .int .i64 g2, .slice A2 m2 c2], .int .i64 nodes, .slice A3 m3 c3] w fun e w' => e = .returned (.bool true) ∧ Ext w w' := by
  replace h1 := hide h1
  replace hm1 := hide hm1
  replace h2 := hide h2
  replace hm2 := hide hm2
  replace h3 := hide h3
  replace hm3 := hide hm3
  go_enter Try.func3, Try.ntmps3
  go_upto_region 1 with fail
  obtain ⟨w0, hw0⟩ : ∃ w0, w0 = w.alloc (.cells #[.int .i64 g1, .slice A1 m1 c1, .int .i64 g2, .slice A2 m2 c2] 25) := ⟨_, rfl⟩
  rw [← hw0]
  have T : Ext w w0 := by rw [hw0]; exact (Below.refl _ _).alloc (Nat.le_refl _) _
  have X3 : Hid (BoxN w0 w.heap.size 25 #[.int .i64 g1, .slice A1 m1 c1, .int .i64 g2, .slice A2 m2 c2]) := hide (by rw [hw0]; exact BoxN.new w _ _)
  clear hw0
  obtain ⟨p3, hp⟩ : ∃ q, q = w.heap.size := ⟨_, rfl⟩
  rw [← hp] at X3 ⊢
  clear hp
  go_wp2_with fail
  refine (wakes_any _).mono ?_
  rintro e w1 ⟨rfl, hE⟩
  replace T := T.trans (hE.mono T.size)
  replace X3 := hide (X3.out.ext hE)
  clear hE
  go_upto_region 3 with fail
  refine wp_region_flt [(some 7, 6), (some 8, 7)] (fun _ => .cells #[.int .i64 0, .slice none 0 0] 24) [(0, true), (1, true), (3, true), (4, true), (2, false), (5, false)] [(8, false), (9, false)] (fun _ => undef) (by kernel_rfl) (by kernel_rfl) (by kernel_rfl) (by kernel_rfl) (by kernel_rfl) (fun _ _ d _ _ h => by cases d <;> exact h) ?_ rfl ?_
  · refine floats_of (by kernel_rfl) ?_ (by decide) (by decide) (by decide)
    intro p hp
    simp only [List.mem_cons, List.not_mem_nil, or_false] at hp
    rcases hp with rfl | rfl
    all_goals
      intro K a w h
      refine flt_lay rfl rfl ?_
      go_simp
      exact h
  obtain ⟨wd, hwd⟩ : ∃ x, x = w1.drew := ⟨_, rfl⟩
  rw [← hwd]
  have hEd : Ext w1 wd := by rw [hwd]; exact (Below.refl _ _).drew
  clear hwd
  have hB := hide (T.trans (hEd.mono T.size))
  replace X3 := hide (X3.out.ext hEd)
  clear T hEd
  replace h1 := hide (h1.out.ext hB.out)
  replace h2 := hide (h2.out.ext hB.out)
  replace h3 := hide (h3.out.ext hB.out)
  have T : Ext wd wd := Below.refl _ _
  have k30 := (X3.out.ext T).cell 0 (v := .int .i64 g1) rfl
  have k31 := (X3.out.ext T).cell 1 (v := .slice A1 m1 c1) rfl
  have k32 := (X3.out.ext T).cell 2 (v := .int .i64 g2) rfl
  have k33 := (X3.out.ext T).cell 3 (v := .slice A2 m2 c2) rfl
  have s3 := (X3.out.ext T).lt
  iterate 4
    apply flt_q rfl rfl
    · intro x W hW
      have hcW : ∀ (b o : Nat), b < (World.heap wd).size → W.cell? ⟨b, o, none⟩ = World.cell? wd ⟨b, o, none⟩ := (bcell hW).1
      simp only [puts, Act.put, List.setIfInBounds_toArray, List.set_cons_zero, List.set_cons_succ]
      go_simp
      try exact rfl
    simp only [Act.put, List.setIfInBounds_toArray, List.set_cons_zero, List.set_cons_succ]
  have hla : (xs.take 80).length ≤ 80 := by rw [List.length_take]; omega
  have hlb : (ys.take 80).length ≤ 80 := by rw [List.length_take]; omega
  obtain ⟨a, ha⟩ : ∃ a, a = xs.take 80 := ⟨_, rfl⟩
  obtain ⟨b, hb⟩ : ∃ a, a = ys.take 80 := ⟨_, rfl⟩
  rw [← ha] at hla
  rw [← hb] at hlb
  replace ha := hide ha
  replace hb := hide hb
  refine flt_w rfl rfl fun W x hE K hK => ?_
  simp only [puts, Act.put, List.setIfInBounds_toArray, List.set_cons_zero, List.set_cons_succ]
  go_simp
  replace T := T.trans (hE.mono T.size)
  refine (fair_any g1 A1 m1 c1 xs _ (h1.out.ext T) hm1.out hc1).mono ?_
  rintro e w2 ⟨v, rfl, hO, hE2⟩
  refine hK _ _ hE2 (by simp only [puts, Act.put, List.setIfInBounds_toArray, List.set_cons_zero, List.set_cons_succ]) ?_
  clear hK K
  replace T := T.trans (hE2.mono T.size)
  try simp only [Act.put, List.setIfInBounds_toArray, List.set_cons_zero, List.set_cons_succ]
  rw [← ha.out] at hO
  obtain ⟨A7, c7, rfl, -, hcc7, -⟩ := hO.rd
  obtain ⟨n7, e7⟩ : ∃ q, q = List.length a := ⟨_, rfl⟩
  rw [← e7] at hcc7 ⊢
  have O7 := hO.base_le (Nat.zero_le _)
  rw [← e7] at O7
  replace O7 := hide O7
  replace e7 := hide e7
  clear hO
  clear hE hE2
  refine flt_w rfl rfl fun W x hE K hK => ?_
  simp only [puts, Act.put, List.setIfInBounds_toArray, List.set_cons_zero, List.set_cons_succ]
  go_simp
  replace T := T.trans (hE.mono T.size)
  refine (fair_any g2 A2 m2 c2 ys _ (h2.out.ext T) hm2.out hc2).mono ?_
  rintro e w3 ⟨v, rfl, hO, hE2⟩
  refine hK _ _ hE2 (by simp only [puts, Act.put, List.setIfInBounds_toArray, List.set_cons_zero, List.set_cons_succ]) ?_
  clear hK K
  replace T := T.trans (hE2.mono T.size)
  try simp only [Act.put, List.setIfInBounds_toArray, List.set_cons_zero, List.set_cons_succ]
  rw [← hb.out] at hO
  replace O7 := hide ((O7.out.ext hE).ext hE2)
  obtain ⟨A8, c8, rfl, -, hcc8, -⟩ := hO.rd
  obtain ⟨n8, e8⟩ : ∃ q, q = List.length b := ⟨_, rfl⟩
  rw [← e8] at hcc8 ⊢
  have O8 := hO.base_le (Nat.zero_le _)
  rw [← e8] at O8
  replace O8 := hide O8
  replace e8 := hide e8
  clear hO
  clear hE hE2
  refine flt_end fun W x hE hA => ?_
  simp only [puts, Act.put, List.setIfInBounds_toArray, List.set_cons_zero, List.set_cons_succ]
  obtain ⟨p7, e1, X7, l7⟩ := hA.1 6 (by simp)
  obtain ⟨p8, e2, X8, l8⟩ := hA.1 7 (by simp)
  have d78 : p7 ≠ p8 := fun h => hA.2 6 (by simp) 7 (by simp) (by decide) (by rw [e1, e2, h])
  rw [e1, e2]
  replace X7 : BoxN W p7 24 #[.int .i64 0, .slice none 0 0] := X7
  replace X8 : BoxN W p8 24 #[.int .i64 0, .slice none 0 0] := X8
  replace O7 := hide (O7.out.ext hE)
  replace O8 := hide (O8.out.ext hE)
  replace T := T.trans (hE.mono T.size)
  replace l7 : wd.heap.size ≤ p7 := l7
  replace l8 : wd.heap.size ≤ p8 := l8
  clear hA hE e1 e2
  clear k30 k31 k32 k33 s3
  have f0 := X7.free 0
  have f1 := X7.free 1
  have q0 := X7.cell 0 (v := .int .i64 0) rfl
  have q1 := X7.cell 1 (v := .slice none 0 0) rfl
  have sq := X7.lt
  refine mix_w rfl rfl (fun K hK => ?_)
  go_simp
  refine hK _ _ ((T.setCell (p := ⟨p7, 0, none⟩) l7 _).setCell (p := ⟨p7, 1, none⟩) l7 _) ?_
  clear hK K
  try simp only [Act.put, List.setIfInBounds_toArray, List.set_cons_zero, List.set_cons_succ]
  obtain ⟨w5, hw14⟩ : ∃ q, q = (World.setCell W ⟨p7, 0, none⟩ (.int .i64 g1)).setCell ⟨p7, 1, none⟩ (.slice A7 n7 c7) := ⟨_, rfl⟩
  rw [← hw14]
  have Y : BoxN w5 p7 24 #[.int .i64 g1, .slice A7 n7 c7] := by rw [hw14]; exact (X7.set 0 (.int .i64 g1)).set 1 (.slice A7 n7 c7)
  replace O7 := hide (show Own edgeE 35 0 w5 (.slice A7 n7 c7) a by rw [hw14]; exact (O7.out.setN X7 (by decide) 0 (.int .i64 g1)).setN (X7.set 0 (.int .i64 g1)) (by decide) 1 (.slice A7 n7 c7))
  replace O8 := hide (show Own edgeE 35 0 w5 (.slice A8 n8 c8) b by rw [hw14]; exact (O8.out.setN X7 (by decide) 0 (.int .i64 g1)).setN (X7.set 0 (.int .i64 g1)) (by decide) 1 (.slice A7 n7 c7))
  replace X8 : BoxN w5 p8 24 #[.int .i64 0, .slice none 0 0] := by rw [hw14]; exact (X8.far (p := ⟨p7, 0, none⟩) (Ne.symm d78) _).far (p := ⟨p7, 1, none⟩) (Ne.symm d78) _
  replace T : Ext wd w5 := by rw [hw14]; exact (T.setCell (p := ⟨p7, 0, none⟩) l7 _).setCell (p := ⟨p7, 1, none⟩) l7 _
  clear hw14 f0 f1 q0 q1 sq X7
  have X7 := Y
  clear Y
  have f0 := X8.free 0
  have f1 := X8.free 1
  have q0 := X8.cell 0 (v := .int .i64 0) rfl
  have q1 := X8.cell 1 (v := .slice none 0 0) rfl
  have sq := X8.lt
  refine mix_w rfl rfl (fun K hK => ?_)
  go_simp
  refine hK _ _ ((T.setCell (p := ⟨p8, 0, none⟩) l8 _).setCell (p := ⟨p8, 1, none⟩) l8 _) ?_
  clear hK K
  try simp only [Act.put, List.setIfInBounds_toArray, List.set_cons_zero, List.set_cons_succ]
  obtain ⟨w6, hw14⟩ : ∃ q, q = (World.setCell w5 ⟨p8, 0, none⟩ (.int .i64 g2)).setCell ⟨p8, 1, none⟩ (.slice A8 n8 c8) := ⟨_, rfl⟩
  rw [← hw14]
  have Y : BoxN w6 p8 24 #[.int .i64 g2, .slice A8 n8 c8] := by rw [hw14]; exact (X8.set 0 (.int .i64 g2)).set 1 (.slice A8 n8 c8)
  replace O7 := hide (show Own edgeE 35 0 w6 (.slice A7 n7 c7) a by rw [hw14]; exact (O7.out.setN X8 (by decide) 0 (.int .i64 g2)).setN (X8.set 0 (.int .i64 g2)) (by decide) 1 (.slice A8 n8 c8))
  replace O8 := hide (show Own edgeE 35 0 w6 (.slice A8 n8 c8) b by rw [hw14]; exact (O8.out.setN X8 (by decide) 0 (.int .i64 g2)).setN (X8.set 0 (.int .i64 g2)) (by decide) 1 (.slice A8 n8 c8))
  replace X7 : BoxN w6 p7 24 #[.int .i64 g1, .slice A7 n7 c7] := by rw [hw14]; exact (X7.far (p := ⟨p8, 0, none⟩) d78 _).far (p := ⟨p8, 1, none⟩) d78 _
  replace T : Ext wd w6 := by rw [hw14]; exact (T.setCell (p := ⟨p8, 0, none⟩) l8 _).setCell (p := ⟨p8, 1, none⟩) l8 _
  clear hw14 f0 f1 q0 q1 sq X8
  have X8 := Y
  clear Y
  refine mix_nil ?_
  have r7 := hide (rdO O7.out)
  have r8 := hide (rdO O8.out)
  replace X7 := hide X7
  replace X8 := hide X8
  replace X3 := hide (X3.out.ext T)
  replace hB := hide (hB.out.trans (T.mono hB.out.size))
  replace h1 := hide (h1.out.ext T)
  replace h2 := hide (h2.out.ext T)
  replace h3 := hide (h3.out.ext T)
  clear O7 O8 l7 l8 d78 T
  have hl7 : n7 ≤ 80 := by have := e7.out; omega
  have hl8 : n8 ≤ 80 := by have := e8.out; omega
  have hl7b : n7 ≤ 1000000 := by omega
  have hl8b : n8 ≤ 1000000 := by omega
  have T : Ext w6 w6 := Below.refl _ _
  have k70 := (X7.out.ext T).cell 0 (v := .int .i64 g1) rfl
  have k71 := (X7.out.ext T).cell 1 (v := .slice A7 n7 c7) rfl
  have s7 := (X7.out.ext T).lt
  have k80 := (X8.out.ext T).cell 0 (v := .int .i64 g2) rfl
  have k81 := (X8.out.ext T).cell 1 (v := .slice A8 n8 c8) rfl
  have s8 := (X8.out.ext T).lt
  have ix0 := index_g0
  have ix1 := index_g1
  go_wp2
  go_loopw [31] (fun i wr => ∃ k : Nat, k ≤ 2 ∧ i = .int .i64 k ∧ Ext w6 wr) (fun i _ => 2 - (intOf i).toNat)
  case atStart => exact ⟨0, by omega, rfl, T⟩
  case round =>
    clear T
    clear k70 k71 s7 k80 k81 s8
    obtain ⟨k, hk, rfl, T⟩ := hrel
    obtain rfl | rfl | rfl : k = 0 ∨ k = 1 ∨ k = 2 := by omega
    · rw [show ((0 : Nat) : Int) = 0 from rfl]
      go_upto_region 7 with fail
      obtain ⟨w7, hw⟩ : ∃ q, q = wr.alloc (.cells #[.int .i64 g1, .slice A7 n7 c7] 24) := ⟨_, rfl⟩
      rw [← hw]
      have hE : Ext wr w7 := by rw [hw]; exact (Below.refl _ _).alloc (Nat.le_refl _) _
      have X10 : BoxG w7 wr.heap.size g1 A7 n7 c7 := by rw [hw]; exact BoxN.new _ _ _
      clear hw
      obtain ⟨p10, hp⟩ : ∃ q, q = wr.heap.size := ⟨_, rfl⟩
      rw [← hp] at X10 ⊢
      clear hp
      replace T := T.trans (hE.mono T.size)
      clear hE
      have k0 := X10.cell 0 (v := .int .i64 g1) rfl
      have k1 := X10.cell 1 (v := .slice A7 n7 c7) rfl
      have s10 := X10.lt
      go_wp2_with fail
      refine (check_any g1 A7 n7 c7 a _ (r7.out.ext T) e7.out hl7b).mono ?_
      rintro e w8 ⟨rfl, hE⟩
      replace X10 := X10.ext hE
      replace T := T.trans (hE.mono T.size)
      clear hE k0 k1 s10
      have k0 := X10.cell 0 (v := .int .i64 g1) rfl
      have k1 := X10.cell 1 (v := .slice A7 n7 c7) rfl
      have s10 := X10.lt
      cases hr : rightG g1 a with
      | false =>
        rw [chkG_no hr]
        go_wp2_with fail
        refine (refRight_any g1 A7 n7 c7 a _ (r7.out.ext T) e7.out hl7b).mono ?_
        rintro e w9 ⟨rfl, hE⟩
        rw [hr]
        replace hr := hide hr
        replace T := T.trans (hE.mono T.size)
        clear hE k0 k1 s10 X10
        go_wp2
        refine ⟨?_, ?_⟩
        · first
            | exact ⟨1, by omega, by first | rfl | go_num, T⟩
            | ((repeat apply Exists.intro); exact ⟨⟨1, by omega, by first | rfl | go_num, T⟩, rfl⟩)
        · first | (simp [intOf, lenV]; omega) | (simp [intOf]; omega) | (simp [intOf]; done)
      | true =>
        rw [chkG_yes hr]
        go_wp2_with fail
        refine (refRight_any g1 A7 n7 c7 a _ (r7.out.ext T) e7.out hl7b).mono ?_
        rintro e w9 ⟨rfl, hE⟩
        rw [hr]
        replace hr := hide hr
        replace T := T.trans (hE.mono T.size)
        clear hE k0 k1 s10 X10
        go_wp2
        refine ⟨?_, ?_⟩
        · first
            | exact ⟨1, by omega, by first | rfl | go_num, T⟩
            | ((repeat apply Exists.intro); exact ⟨⟨1, by omega, by first | rfl | go_num, T⟩, rfl⟩)
        · first | (simp [intOf, lenV]; omega) | (simp [intOf]; omega) | (simp [intOf]; done)
    · rw [show ((1 : Nat) : Int) = 1 from rfl]
      go_upto_region 7 with fail
      obtain ⟨w7, hw⟩ : ∃ q, q = wr.alloc (.cells #[.int .i64 g2, .slice A8 n8 c8] 24) := ⟨_, rfl⟩
      rw [← hw]
      have hE : Ext wr w7 := by rw [hw]; exact (Below.refl _ _).alloc (Nat.le_refl _) _
      have X10 : BoxG w7 wr.heap.size g2 A8 n8 c8 := by rw [hw]; exact BoxN.new _ _ _
      clear hw
      obtain ⟨p10, hp⟩ : ∃ q, q = wr.heap.size := ⟨_, rfl⟩
      rw [← hp] at X10 ⊢
      clear hp
      replace T := T.trans (hE.mono T.size)
      clear hE
      have k0 := X10.cell 0 (v := .int .i64 g2) rfl
      have k1 := X10.cell 1 (v := .slice A8 n8 c8) rfl
      have s10 := X10.lt
      go_wp2_with fail
      refine (check_any g2 A8 n8 c8 b _ (r8.out.ext T) e8.out hl8b).mono ?_
      rintro e w8 ⟨rfl, hE⟩
      replace X10 := X10.ext hE
      replace T := T.trans (hE.mono T.size)
      clear hE k0 k1 s10
      have k0 := X10.cell 0 (v := .int .i64 g2) rfl
      have k1 := X10.cell 1 (v := .slice A8 n8 c8) rfl
      have s10 := X10.lt
      cases hr : rightG g2 b with
      | false =>
        rw [chkG_no hr]
        go_wp2_with fail
        refine (refRight_any g2 A8 n8 c8 b _ (r8.out.ext T) e8.out hl8b).mono ?_
        rintro e w9 ⟨rfl, hE⟩
        rw [hr]
        replace hr := hide hr
        replace T := T.trans (hE.mono T.size)
        clear hE k0 k1 s10 X10
        go_wp2
        refine ⟨?_, ?_⟩
        · first
            | exact ⟨2, by omega, by first | rfl | go_num, T⟩
            | ((repeat apply Exists.intro); exact ⟨⟨2, by omega, by first | rfl | go_num, T⟩, rfl⟩)
        · first | (simp [intOf, lenV]; omega) | (simp [intOf]; omega) | (simp [intOf]; done)
      | true =>
        rw [chkG_yes hr]
        go_wp2_with fail
        refine (refRight_any g2 A8 n8 c8 b _ (r8.out.ext T) e8.out hl8b).mono ?_
        rintro e w9 ⟨rfl, hE⟩
        rw [hr]
        replace hr := hide hr
        replace T := T.trans (hE.mono T.size)
        clear hE k0 k1 s10 X10
        go_wp2
        refine ⟨?_, ?_⟩
        · first
            | exact ⟨2, by omega, by first | rfl | go_num, T⟩
            | ((repeat apply Exists.intro); exact ⟨⟨2, by omega, by first | rfl | go_num, T⟩, rfl⟩)
        · first | (simp [intOf, lenV]; omega) | (simp [intOf]; omega) | (simp [intOf]; done)
    · rw [show ((2 : Nat) : Int) = 2 from rfl]
      have hlz : (zs.take 80).length ≤ 80 := by rw [List.length_take]; omega
      obtain ⟨l, hl⟩ : ∃ l, l = zs.take 80 := ⟨_, rfl⟩
      rw [← hl] at hlz
      replace hl := hide hl
      go_wp2_with fail
      refine (few_any A3 m3 c3 zs _ hm3.out (h3.out.ext T) hc3).mono ?_
      rintro e w10 ⟨v, rfl, hO, hE⟩
      rw [← hl.out] at hO
      replace T := T.trans (hE.mono T.size)
      clear hE
      obtain ⟨A12, c12, rfl, r12, hcc12, -⟩ := hO.rd
      obtain ⟨n12, e12⟩ : ∃ q, q = List.length l := ⟨_, rfl⟩
      rw [← e12] at hcc12 ⊢
      replace r12 := hide r12
      replace e12 := hide e12
      clear hO
      have hl12 : n12 ≤ 80 := by have := e12.out; omega
      have T10 := hide T
      clear T
      have T : Ext w10 w10 := Below.refl _ _
      obtain ⟨y1, hy1⟩ : ∃ q, q = ofN nodes l := ⟨_, rfl⟩
      obtain ⟨y2, hy2⟩ : ∃ q, q = ofR nodes l := ⟨_, rfl⟩
      obtain ⟨y3, hy3⟩ : ∃ q, q = ofL nodes l := ⟨_, rfl⟩
      replace hy1 := hide hy1
      replace hy2 := hide hy2
      replace hy3 := hide hy3
      go_wp2_with fail
      refine (Of_any nodes A12 n12 c12 l _ (r12.out.ext T) e12.out hcc12 (by omega)).mono ?_
      rintro e w11 ⟨v, rfl, hO, hE⟩
      rw [← hy3.out] at hO
      rw [← hy1.out, ← hy2.out]
      replace T := T.trans (hE.mono T.size)
      clear hE
      obtain ⟨A13, c13, rfl, r13, hcc13, -⟩ := hO.rd
      obtain ⟨n13, e13⟩ : ∃ q, q = List.length y3 := ⟨_, rfl⟩
      rw [← e13] at hcc13 ⊢
      replace r13 := hide r13
      replace e13 := hide e13
      clear hO
      go_upto_region 13 with fail
      obtain ⟨w12, hw⟩ : ∃ q, q = World.alloc w11 (.cells #[.int .i64 y1, .slice A13 n13 c13] 24) := ⟨_, rfl⟩
      rw [← hw]
      have hE : Ext w11 w12 := by rw [hw]; exact (Below.refl _ _).alloc (Nat.le_refl _) _
      have X13 : Hid (BoxG w12 (World.heap w11).size y1 A13 n13 c13) := hide (by rw [hw]; exact BoxN.new _ _ _)
      clear hw
      obtain ⟨p13, hp⟩ : ∃ q, q = (World.heap w11).size := ⟨_, rfl⟩
      rw [← hp] at X13 ⊢
      clear hp
      replace r13 := hide (r13.out.ext hE)
      replace T := T.trans (hE.mono T.size)
      clear hE
      have TT := hide (T10.out.trans (T.mono T10.out.size))
      replace r12 := hide (r12.out.ext T)
      clear T T10
      obtain ⟨q0, hq0⟩ : ∃ q, q = (decide (0 ≤ nodes) && decide (nodes ≤ 300)) := ⟨_, rfl⟩
      have hok : Hid (okOf nodes l = (q0 && l.all (rightE nodes))) := hide (by rw [hq0]; rfl)
      by_cases hn0 : 0 ≤ nodes
      · by_cases hn3 : nodes ≤ 300
        · have hq0t : q0 = true := by rw [hq0, decide_eq_true hn0, decide_eq_true hn3]; rfl
          clear hq0
          go_wp2
          go_loopw [15, 66] (fun b i wr => ∃ k : Nat, k ≤ n12 ∧ i = .int .i64 k ∧ b = .bool (q0 && (l.take k).all (rightE nodes)) ∧ Ext w12 wr) (fun _ i _ => n12 - (intOf i).toNat)
          case atStart => exact ⟨0, Nat.zero_le _, rfl, by simp [hq0t], Below.refl _ _⟩
          case round =>
            obtain ⟨k, hk, rfl, rfl, T⟩ := hrel
            by_cases hlt : k < n12
            · have hlt' : (k : Int) < (n12 : Int) := by omega
              obtain ⟨bk, off, rfl, ra⟩ := (r12.out.ext T).at_ (i := k) (by rw [← e12.out]; exact hlt)
              obtain ⟨⟨p1, p2, p3⟩, hx⟩ := get_some (xs := l) (i := k) (by rw [← e12.out]; exact hlt)
              obtain ⟨hx1, hx2, hx3⟩ := ra.edge hx
              have hb1 := ra.1
              have hts : Hid ((l.take (k + 1)).all (rightE nodes) = ((l.take k).all (rightE nodes) && rightE nodes (p1, p2, p3))) := hide (by rw [take_snoc hx, List.all_append]; simp)
              replace hx := hide hx
              replace ra := hide ra
              go_upto_region 17 with fail
              obtain ⟨w13, hw1⟩ : ∃ x, x = World.alloc wr (.cells #[.int .i64 p1, .int .i64 p2, .int .i64 p3] 35) := ⟨_, rfl⟩
              rw [← hw1]
              have hE1 : Ext wr w13 := by rw [hw1]; exact (Below.refl _ _).alloc (Nat.le_refl _) _
              have X17 : BoxN w13 (World.heap wr).size 35 #[.int .i64 p1, .int .i64 p2, .int .i64 p3] := by rw [hw1]; exact BoxN.new _ _ _
              clear hw1
              obtain ⟨p17, hpe⟩ : ∃ b, b = (World.heap wr).size := ⟨_, rfl⟩
              rw [← hpe] at X17 ⊢
              clear hpe
              clear hx1 hx2 hx3 hb1
              replace T := T.trans (hE1.mono T.size)
              have k0 := X17.cell 0 (v := .int .i64 p1) rfl
              have k1 := X17.cell 1 (v := .int .i64 p2) rfl
              have k2 := X17.cell 2 (v := .int .i64 p3) rfl
              have s17 := X17.lt
              obtain ⟨qk, hqk⟩ : ∃ q, q = (q0 && (l.take k).all (rightE nodes)) := ⟨_, rfl⟩
              rw [← hqk]
              have hq1 : Hid ((q0 && (l.take (k + 1)).all (rightE nodes)) = (qk && rightE nodes (p1, p2, p3))) := hide (by rw [hts.out, hqk, Bool.and_assoc])
              clear hqk
              cases qk with
              | false =>
                have hq2 : Hid (false = (q0 && (l.take (k + 1)).all (rightE nodes))) := hide (by rw [hq1.out]; rfl)
                go_wp2
                refine ⟨?_, ?_⟩
                · first
                    | exact ⟨k + 1, by omega, by go_num, by rw [← hq2.out], T⟩
                    | ((repeat apply Exists.intro); exact ⟨⟨k + 1, by omega, by go_num, by rw [← hq2.out], T⟩, rfl⟩)
                · first | (simp [intOf, lenV]; omega) | (simp [intOf]; omega) | (simp [intOf]; done)
              | true =>
                go_wp2_with fail
                refine (rightEdge_any nodes p1 p2 p3 _).mono ?_
                rintro e w14 ⟨rfl, hE⟩
                have hq2 : Hid (rightE nodes (p1, p2, p3) = (q0 && (l.take (k + 1)).all (rightE nodes))) := hide (by rw [hq1.out]; rfl)
                replace T := T.trans (hE.mono T.size)
                clear hE k0 k1 k2 s17
                go_wp2
                refine ⟨?_, ?_⟩
                · first
                    | exact ⟨k + 1, by omega, by go_num, by rw [← hq2.out], T⟩
                    | ((repeat apply Exists.intro); exact ⟨⟨k + 1, by omega, by go_num, by rw [← hq2.out], T⟩, rfl⟩)
                · first | (simp [intOf, lenV]; omega) | (simp [intOf]; omega) | (simp [intOf]; done)
            · have hlt' : ¬ (k : Int) < (n12 : Int) := by omega
              have hkl : l.take k = l := List.take_of_length_le (by rw [← e12.out]; omega)
              rw [hkl, ← hok.out]
              clear hkl
              go_upto_region 20 with fail
              obtain ⟨w14, hw⟩ : ∃ q, q = wr.alloc (.cells #[.int .i64 0, .slice none 0 0] 24) := ⟨_, rfl⟩
              rw [← hw]
              have hE : Ext wr w14 := by rw [hw]; exact (Below.refl _ _).alloc (Nat.le_refl _) _
              have X18 : BoxG w14 wr.heap.size 0 none 0 0 := by rw [hw]; exact BoxN.new _ _ _
              clear hw
              have lp18 := T.size
              obtain ⟨p18, hp⟩ : ∃ q, q = wr.heap.size := ⟨_, rfl⟩
              rw [← hp] at X18 lp18 ⊢
              clear hp
              replace T := T.trans (hE.mono T.size)
              clear hE
              have TA := hide (TT.out.trans (T.mono TT.out.size))
              cases hqq : okOf nodes l with
              | true =>
                obtain ⟨o1, o2, o3⟩ := of_yes hqq
                obtain rfl : nodes = y1 := (hy1.out.trans o1).symm
                obtain rfl : y2 = 0 := hy2.out.trans o2
                replace o3 := hy3.out.trans o3
                have hlz3 : y3.length ≤ 80 := by rw [o3]; exact Nat.le_trans (ofE_len l) hlz
                replace o3 := hide o3
                replace hqq := hide hqq
                clear o1 o2
                go_wp2_with fail
                refine (few_any A3 m3 c3 zs _ hm3.out (h3.out.ext TA.out) hc3).mono ?_
                rintro e w15 ⟨v, rfl, hO, hE⟩
                rw [← hl.out] at hO
                replace X18 := X18.ext hE
                replace T := T.trans (hE.mono T.size)
                replace TA := hide (TA.out.trans (hE.mono TA.out.size))
                clear hE
                obtain ⟨A81, c81, rfl, r81, hcc81, -⟩ := hO.rd
                obtain ⟨n81, e81⟩ : ∃ q, q = List.length l := ⟨_, rfl⟩
                rw [← e81] at hcc81 ⊢
                replace r81 := hide r81
                replace e81 := hide e81
                clear hO
                go_wp2_with fail
                refine (refOf_any nodes A81 n81 c81 l _ r81.out e81.out (by have := e81.out; omega)).mono ?_
                rintro e w15b ⟨v, rfl, hO, hE⟩
                rw [← o3.out] at hO
                replace X18 := X18.ext hE
                replace T := T.trans (hE.mono T.size)
                replace TA := hide (TA.out.trans (hE.mono TA.out.size))
                clear hE r81 e81 hcc81
                obtain ⟨A82, c82, rfl, -, hcc82, -⟩ := hO.rd
                obtain ⟨n82, e82⟩ : ∃ q, q = List.length y3 := ⟨_, rfl⟩
                rw [← e82] at hcc82 ⊢
                have O82 := hO.base_le (Nat.zero_le _)
                rw [← e82] at O82
                replace O82 := hide O82
                replace e82 := hide e82
                clear hO
                have f0 := X18.free 0
                have f1 := X18.free 1
                have z0 := X18.cell 0 (v := .int .i64 0) rfl
                have z1 := X18.cell 1 (v := .slice none 0 0) rfl
                have zs18 := X18.lt
                go_upto_region 22 with fail
                obtain ⟨w15c, hw⟩ : ∃ q, q = (w15b.setCell ⟨p18, 0, none⟩ (.int .i64 nodes)).setCell ⟨p18, 1, none⟩ (.slice A82 n82 c82) := ⟨_, rfl⟩
                rw [← hw]
                have r82 : Hid (Rd edgeE w15c.heap.size w15c A82 y3) := hide (by rw [hw]; exact rdO ((O82.out.setN X18 (by decide) 0 (.int .i64 nodes)).setN (X18.set 0 (.int .i64 nodes)) (by decide) 1 (.slice A82 n82 c82)))
                have Y18 : BoxG w15c p18 nodes A82 n82 c82 := by rw [hw]; exact (X18.set 0 (.int .i64 nodes)).set 1 (.slice A82 n82 c82)
                replace T : Ext w12 w15c := by rw [hw]; exact (T.setCell (p := ⟨p18, 0, none⟩) lp18 _).setCell (p := ⟨p18, 1, none⟩) lp18 _
                replace TA : Hid (Ext w6 w15c) := hide (by rw [hw]; exact (TA.out.setCell (p := ⟨p18, 0, none⟩) (Nat.le_trans TT.out.size lp18) _).setCell (p := ⟨p18, 1, none⟩) (Nat.le_trans TT.out.size lp18) _)
                clear hw f0 f1 z0 z1 zs18 X18 O82
                have X18 := Y18
                clear Y18
                have k180 := X18.cell 0 (v := .int .i64 nodes) rfl
                have k181 := X18.cell 1 (v := .slice A82 n82 c82) rfl
                have s18 := X18.lt
                have k130 := (X13.out.ext T).cell 0 (v := .int .i64 nodes) rfl
                have k131 := (X13.out.ext T).cell 1 (v := .slice A13 n13 c13) rfl
                have s13 := (X13.out.ext T).lt
                go_wp2_with fail
                refine (refSame_any nodes nodes A13 A82 n13 c13 n82 c82 y3 y3 _ (r13.out.ext T) e13.out r82.out e82.out (by have := e13.out; have := hlz3; omega)).mono ?_
                rintro e w16 ⟨rfl, hE⟩
                rw [sameG_self]
                replace T := T.trans (hE.mono T.size)
                replace TA := hide (TA.out.trans (hE.mono TA.out.size))
                clear hE k180 k181 s18 X18
                clear k130 k131 s13
                go_wp2_with fail
                refine (few_any A3 m3 c3 zs _ hm3.out (h3.out.ext TA.out) hc3).mono ?_
                rintro e w17 ⟨v, rfl, hO, hE⟩
                rw [← hl.out] at hO
                replace T := T.trans (hE.mono T.size)
                replace TA := hide (TA.out.trans (hE.mono TA.out.size))
                clear hE
                obtain ⟨A95, c95, rfl, r95, hcc95, -⟩ := hO.rd
                obtain ⟨n95, e95⟩ : ∃ q, q = List.length l := ⟨_, rfl⟩
                rw [← e95] at hcc95 ⊢
                replace r95 := hide r95
                replace e95 := hide e95
                clear hO
                go_wp2_with fail
                refine (equal_Edge A12 A95 n12 c12 n95 c95 l l _ e12.out (r12.out.ext T) e95.out r95.out (by omega)).mono ?_
                rintro e w18 ⟨rfl, hE⟩
                try rw [show decide (l = l) = true from decide_eq_true rfl]
                replace T := T.trans (hE.mono T.size)
                replace TA := hide (TA.out.trans (hE.mono TA.out.size))
                clear hE r95 e95 hcc95 T
                have T := TA.out
                have k70 := (X7.out.ext T).cell 0 (v := .int .i64 g1) rfl
                have k71 := (X7.out.ext T).cell 1 (v := .slice A7 n7 c7) rfl
                have s7 := (X7.out.ext T).lt
                have k80 := (X8.out.ext T).cell 0 (v := .int .i64 g2) rfl
                have k81 := (X8.out.ext T).cell 1 (v := .slice A8 n8 c8) rfl
                have s8 := (X8.out.ext T).lt
                have k30 := (X3.out.ext T).cell 0 (v := .int .i64 g1) rfl
                have k31 := (X3.out.ext T).cell 1 (v := .slice A1 m1 c1) rfl
                have k32 := (X3.out.ext T).cell 2 (v := .int .i64 g2) rfl
                have k33 := (X3.out.ext T).cell 3 (v := .slice A2 m2 c2) rfl
                have s3 := (X3.out.ext T).lt
                have Q7 := hide (r7.out.ext T)
                have Q8 := hide (r8.out.ext T)
                have Q1 := hide (h1.out.ext T)
                clear T
                go_upto_region 24 with fail
                have T : Ext w18 w18.drew := (Below.refl _ _).drew
                refine wp_region_mix (fun W => Below w18.heap.size w18 W) [(0, true), (1, true), (3, true), (4, true), (2, false), (5, false), (6, true), (7, true), (8, true), (9, true), (10, true), (11, false), (12, false), (13, true), (14, true)] (by kernel_rfl) (by kernel_rfl) (by kernel_rfl) (by kernel_rfl) (fun _ _ d _ _ h => by cases d <;> exact h) ?_ ?_
                · exact T
                obtain ⟨wl, hwh⟩ : ∃ x, x = w18.drew := ⟨_, rfl⟩
                rw [← hwh] at T ⊢
                clear hwh
                iterate 4
                  apply mix_q rfl rfl
                  · intro W hW
                    have hcW := (bcell hW).1
                    go_simp
                    try exact rfl
                  simp only [Act.put, List.setIfInBounds_toArray, List.set_cons_zero, List.set_cons_succ]
                refine mix_w rfl rfl (fun K hK => ?_)
                go_simp
                refine (same_any g1 g2 A7 A8 n7 c7 n8 c8 a b _ (Q7.out.ext T) e7.out (Q8.out.ext T) e8.out hl7b).mono ?_
                rintro e w19 ⟨rfl, hE⟩
                refine hK _ _ (T.trans (hE.mono T.size)) ?_
                clear hK K
                try simp only [Act.put, List.setIfInBounds_toArray, List.set_cons_zero, List.set_cons_succ]
                replace T := T.trans (hE.mono T.size)
                clear hE
                refine mix_w rfl rfl (fun K hK => ?_)
                go_simp
                refine (refSame_any g1 g2 A7 A8 n7 c7 n8 c8 a b _ (Q7.out.ext T) e7.out (Q8.out.ext T) e8.out hl7b).mono ?_
                rintro e w20 ⟨rfl, hE⟩
                refine hK _ _ (T.trans (hE.mono T.size)) ?_
                clear hK K
                try simp only [Act.put, List.setIfInBounds_toArray, List.set_cons_zero, List.set_cons_succ]
                replace T := T.trans (hE.mono T.size)
                clear hE
                obtain ⟨qs, hqs⟩ : ∃ q, q = sameG g1 a g2 b := ⟨_, rfl⟩
                rw [← hqs]
                clear hqs
                have hqe : (qs == qs) = true := by cases qs <;> rfl
                iterate 2
                  apply mix_q rfl rfl
                  · intro W hW
                    have hcW := (bcell hW).1
                    go_simp
                    try exact rfl
                  simp only [Act.put, List.setIfInBounds_toArray, List.set_cons_zero, List.set_cons_succ]
                try rw [hqe]
                iterate 3
                  apply mix_on rfl (wanted_is rfl rfl rfl rfl rfl)
                  · intro W hW
                    have hcW := (bcell hW).1
                    go_simp
                    try exact rfl
                  simp only [Act.put, List.setIfInBounds_toArray, List.set_cons_zero, List.set_cons_succ]
                refine mix_won rfl (wanted_is rfl rfl rfl rfl rfl) (fun K hK => ?_)
                go_simp
                refine (fair_any g1 A1 m1 c1 xs _ (Q1.out.ext T) hm1.out hc1).mono ?_
                rintro e w21 ⟨v, rfl, hO, hE⟩
                refine hK _ _ (T.trans (hE.mono T.size)) ?_
                clear hK K
                try simp only [Act.put, List.setIfInBounds_toArray, List.set_cons_zero, List.set_cons_succ]
                replace T := T.trans (hE.mono T.size)
                rw [← ha.out] at hO
                clear hE
                obtain ⟨A110, c110, rfl, r110, hcc110, -⟩ := hO.rd
                obtain ⟨n110, e110⟩ : ∃ q, q = List.length a := ⟨_, rfl⟩
                rw [← e110] at hcc110 ⊢
                replace r110 := hide r110
                replace e110 := hide e110
                clear hO
                refine mix_won rfl (wanted_is rfl rfl rfl rfl rfl) (fun K hK => ?_)
                go_simp
                refine (same_any g1 g1 A7 A110 n7 c7 n110 c110 a a _ (Q7.out.ext T) e7.out r110.out e110.out hl7b).mono ?_
                rintro e w22 ⟨rfl, hE⟩
                refine hK _ _ (T.trans (hE.mono T.size)) ?_
                clear hK K
                try simp only [Act.put, List.setIfInBounds_toArray, List.set_cons_zero, List.set_cons_succ]
                replace T := T.trans (hE.mono T.size)
                rw [sameG_self]
                clear hE
                iterate 2
                  apply mix_q rfl rfl
                  · intro W hW
                    have hcW := (bcell hW).1
                    go_simp
                    try exact rfl
                  simp only [Act.put, List.setIfInBounds_toArray, List.set_cons_zero, List.set_cons_succ]
                refine mix_nil ?_
                go_wp2
                go_ret
                exact ⟨rfl, hB.out.trans ((TA.out.trans (T.mono TA.out.size)).mono hB.out.size)⟩
              | false =>
                obtain ⟨o1, o2, o3⟩ := of_no hqq
                obtain rfl : y1 = 0 := hy1.out.trans o1
                obtain rfl : y2 = 2 := hy2.out.trans o2
                obtain rfl : y3 = [] := hy3.out.trans o3
                have hlz3 : ([] : List (Int × Int × Int)).length ≤ 80 := by decide
                obtain rfl : n13 = 0 := e13.out
                replace hqq := hide hqq
                clear o1 o2 o3
                go_upto_region 22 with fail
                have k180 := X18.cell 0 (v := .int .i64 0) rfl
                have k181 := X18.cell 1 (v := .slice none 0 0) rfl
                have s18 := X18.lt
                have k130 := (X13.out.ext T).cell 0 (v := .int .i64 0) rfl
                have k131 := (X13.out.ext T).cell 1 (v := .slice A13 0 c13) rfl
                have s13 := (X13.out.ext T).lt
                go_wp2_with fail
                refine (refSame_any 0 0 A13 none 0 c13 0 0 [] [] _ (r13.out.ext T) e13.out Rd.nil_ rfl (by have := e13.out; have := hlz3; omega)).mono ?_
                rintro e w16 ⟨rfl, hE⟩
                rw [sameG_self]
                replace T := T.trans (hE.mono T.size)
                replace TA := hide (TA.out.trans (hE.mono TA.out.size))
                clear hE k180 k181 s18 X18
                clear k130 k131 s13
                go_wp2_with fail
                refine (few_any A3 m3 c3 zs _ hm3.out (h3.out.ext TA.out) hc3).mono ?_
                rintro e w17 ⟨v, rfl, hO, hE⟩
                rw [← hl.out] at hO
                replace T := T.trans (hE.mono T.size)
                replace TA := hide (TA.out.trans (hE.mono TA.out.size))
                clear hE
                obtain ⟨A95, c95, rfl, r95, hcc95, -⟩ := hO.rd
                obtain ⟨n95, e95⟩ : ∃ q, q = List.length l := ⟨_, rfl⟩
                rw [← e95] at hcc95 ⊢
                replace r95 := hide r95
                replace e95 := hide e95
                clear hO
                go_wp2_with fail
                refine (equal_Edge A12 A95 n12 c12 n95 c95 l l _ e12.out (r12.out.ext T) e95.out r95.out (by omega)).mono ?_
                rintro e w18 ⟨rfl, hE⟩
                try rw [show decide (l = l) = true from decide_eq_true rfl]
                replace T := T.trans (hE.mono T.size)
                replace TA := hide (TA.out.trans (hE.mono TA.out.size))
                clear hE r95 e95 hcc95 T
                have T := TA.out
                have k70 := (X7.out.ext T).cell 0 (v := .int .i64 g1) rfl
                have k71 := (X7.out.ext T).cell 1 (v := .slice A7 n7 c7) rfl
                have s7 := (X7.out.ext T).lt
                have k80 := (X8.out.ext T).cell 0 (v := .int .i64 g2) rfl
                have k81 := (X8.out.ext T).cell 1 (v := .slice A8 n8 c8) rfl
                have s8 := (X8.out.ext T).lt
                have k30 := (X3.out.ext T).cell 0 (v := .int .i64 g1) rfl
                have k31 := (X3.out.ext T).cell 1 (v := .slice A1 m1 c1) rfl
                have k32 := (X3.out.ext T).cell 2 (v := .int .i64 g2) rfl
                have k33 := (X3.out.ext T).cell 3 (v := .slice A2 m2 c2) rfl
                have s3 := (X3.out.ext T).lt
                have Q7 := hide (r7.out.ext T)
                have Q8 := hide (r8.out.ext T)
                have Q1 := hide (h1.out.ext T)
                clear T
                go_upto_region 24 with fail
                have T : Ext w18 w18.drew := (Below.refl _ _).drew
                refine wp_region_mix (fun W => Below w18.heap.size w18 W) [(0, true), (1, true), (3, true), (4, true), (2, false), (5, false), (6, true), (7, true), (8, true), (9, true), (10, true), (11, false), (12, false), (13, true), (14, true)] (by kernel_rfl) (by kernel_rfl) (by kernel_rfl) (by kernel_rfl) (fun _ _ d _ _ h => by cases d <;> exact h) ?_ ?_
                · exact T
                obtain ⟨wl, hwh⟩ : ∃ x, x = w18.drew := ⟨_, rfl⟩
                rw [← hwh] at T ⊢
                clear hwh
                iterate 4
                  apply mix_q rfl rfl
                  · intro W hW
                    have hcW := (bcell hW).1
                    go_simp
                    try exact rfl
                  simp only [Act.put, List.setIfInBounds_toArray, List.set_cons_zero, List.set_cons_succ]
                refine mix_w rfl rfl (fun K hK => ?_)
                go_simp
                refine (same_any g1 g2 A7 A8 n7 c7 n8 c8 a b _ (Q7.out.ext T) e7.out (Q8.out.ext T) e8.out hl7b).mono ?_
                rintro e w19 ⟨rfl, hE⟩
                refine hK _ _ (T.trans (hE.mono T.size)) ?_
                clear hK K
                try simp only [Act.put, List.setIfInBounds_toArray, List.set_cons_zero, List.set_cons_succ]
                replace T := T.trans (hE.mono T.size)
                clear hE
                refine mix_w rfl rfl (fun K hK => ?_)
                go_simp
                refine (refSame_any g1 g2 A7 A8 n7 c7 n8 c8 a b _ (Q7.out.ext T) e7.out (Q8.out.ext T) e8.out hl7b).mono ?_
                rintro e w20 ⟨rfl, hE⟩
                refine hK _ _ (T.trans (hE.mono T.size)) ?_
                clear hK K
                try simp only [Act.put, List.setIfInBounds_toArray, List.set_cons_zero, List.set_cons_succ]
                replace T := T.trans (hE.mono T.size)
                clear hE
                obtain ⟨qs, hqs⟩ : ∃ q, q = sameG g1 a g2 b := ⟨_, rfl⟩
                rw [← hqs]
                clear hqs
                have hqe : (qs == qs) = true := by cases qs <;> rfl
                iterate 2
                  apply mix_q rfl rfl
                  · intro W hW
                    have hcW := (bcell hW).1
                    go_simp
                    try exact rfl
                  simp only [Act.put, List.setIfInBounds_toArray, List.set_cons_zero, List.set_cons_succ]
                try rw [hqe]
                iterate 3
                  apply mix_on rfl (wanted_is rfl rfl rfl rfl rfl)
                  · intro W hW
                    have hcW := (bcell hW).1
                    go_simp
                    try exact rfl
                  simp only [Act.put, List.setIfInBounds_toArray, List.set_cons_zero, List.set_cons_succ]
                refine mix_won rfl (wanted_is rfl rfl rfl rfl rfl) (fun K hK => ?_)
                go_simp
                refine (fair_any g1 A1 m1 c1 xs _ (Q1.out.ext T) hm1.out hc1).mono ?_
                rintro e w21 ⟨v, rfl, hO, hE⟩
                refine hK _ _ (T.trans (hE.mono T.size)) ?_
                clear hK K
                try simp only [Act.put, List.setIfInBounds_toArray, List.set_cons_zero, List.set_cons_succ]
                replace T := T.trans (hE.mono T.size)
                rw [← ha.out] at hO
                clear hE
                obtain ⟨A110, c110, rfl, r110, hcc110, -⟩ := hO.rd
                obtain ⟨n110, e110⟩ : ∃ q, q = List.length a := ⟨_, rfl⟩
                rw [← e110] at hcc110 ⊢
                replace r110 := hide r110
                replace e110 := hide e110
                clear hO
                refine mix_won rfl (wanted_is rfl rfl rfl rfl rfl) (fun K hK => ?_)
                go_simp
                refine (same_any g1 g1 A7 A110 n7 c7 n110 c110 a a _ (Q7.out.ext T) e7.out r110.out e110.out hl7b).mono ?_
                rintro e w22 ⟨rfl, hE⟩
                refine hK _ _ (T.trans (hE.mono T.size)) ?_
                clear hK K
                try simp only [Act.put, List.setIfInBounds_toArray, List.set_cons_zero, List.set_cons_succ]
                replace T := T.trans (hE.mono T.size)
                rw [sameG_self]
                clear hE
                iterate 2
                  apply mix_q rfl rfl
                  · intro W hW
                    have hcW := (bcell hW).1
                    go_simp
                    try exact rfl
                  simp only [Act.put, List.setIfInBounds_toArray, List.set_cons_zero, List.set_cons_succ]
                refine mix_nil ?_
                go_wp2
                go_ret
                exact ⟨rfl, hB.out.trans ((TA.out.trans (T.mono TA.out.size)).mono hB.out.size)⟩
        · have hq0t : q0 = false := by rw [hq0, decide_eq_false hn3, Bool.and_false]
          clear hq0
          go_wp2
          go_loopw [15, 66] (fun b i wr => ∃ k : Nat, k ≤ n12 ∧ i = .int .i64 k ∧ b = .bool (q0 && (l.take k).all (rightE nodes)) ∧ Ext w12 wr) (fun _ i _ => n12 - (intOf i).toNat)
          case atStart => exact ⟨0, Nat.zero_le _, rfl, by simp [hq0t], Below.refl _ _⟩
          case round =>
            obtain ⟨k, hk, rfl, rfl, T⟩ := hrel
            by_cases hlt : k < n12
            · have hlt' : (k : Int) < (n12 : Int) := by omega
              obtain ⟨bk, off, rfl, ra⟩ := (r12.out.ext T).at_ (i := k) (by rw [← e12.out]; exact hlt)
              obtain ⟨⟨p1, p2, p3⟩, hx⟩ := get_some (xs := l) (i := k) (by rw [← e12.out]; exact hlt)
              obtain ⟨hx1, hx2, hx3⟩ := ra.edge hx
              have hb1 := ra.1
              have hts : Hid ((l.take (k + 1)).all (rightE nodes) = ((l.take k).all (rightE nodes) && rightE nodes (p1, p2, p3))) := hide (by rw [take_snoc hx, List.all_append]; simp)
              replace hx := hide hx
              replace ra := hide ra
              go_upto_region 17 with fail
              obtain ⟨w13, hw1⟩ : ∃ x, x = World.alloc wr (.cells #[.int .i64 p1, .int .i64 p2, .int .i64 p3] 35) := ⟨_, rfl⟩
              rw [← hw1]
              have hE1 : Ext wr w13 := by rw [hw1]; exact (Below.refl _ _).alloc (Nat.le_refl _) _
              have X17 : BoxN w13 (World.heap wr).size 35 #[.int .i64 p1, .int .i64 p2, .int .i64 p3] := by rw [hw1]; exact BoxN.new _ _ _
              clear hw1
              obtain ⟨p17, hpe⟩ : ∃ b, b = (World.heap wr).size := ⟨_, rfl⟩
              rw [← hpe] at X17 ⊢
              clear hpe
              clear hx1 hx2 hx3 hb1
              replace T := T.trans (hE1.mono T.size)
              have k0 := X17.cell 0 (v := .int .i64 p1) rfl
              have k1 := X17.cell 1 (v := .int .i64 p2) rfl
              have k2 := X17.cell 2 (v := .int .i64 p3) rfl
              have s17 := X17.lt
              obtain ⟨qk, hqk⟩ : ∃ q, q = (q0 && (l.take k).all (rightE nodes)) := ⟨_, rfl⟩
              rw [← hqk]
              have hq1 : Hid ((q0 && (l.take (k + 1)).all (rightE nodes)) = (qk && rightE nodes (p1, p2, p3))) := hide (by rw [hts.out, hqk, Bool.and_assoc])
              clear hqk
              cases qk with
              | false =>
                have hq2 : Hid (false = (q0 && (l.take (k + 1)).all (rightE nodes))) := hide (by rw [hq1.out]; rfl)
                go_wp2
                refine ⟨?_, ?_⟩
                · first
                    | exact ⟨k + 1, by omega, by go_num, by rw [← hq2.out], T⟩
                    | ((repeat apply Exists.intro); exact ⟨⟨k + 1, by omega, by go_num, by rw [← hq2.out], T⟩, rfl⟩)
                · first | (simp [intOf, lenV]; omega) | (simp [intOf]; omega) | (simp [intOf]; done)
              | true =>
                go_wp2_with fail
                refine (rightEdge_any nodes p1 p2 p3 _).mono ?_
                rintro e w14 ⟨rfl, hE⟩
                have hq2 : Hid (rightE nodes (p1, p2, p3) = (q0 && (l.take (k + 1)).all (rightE nodes))) := hide (by rw [hq1.out]; rfl)
                replace T := T.trans (hE.mono T.size)
                clear hE k0 k1 k2 s17
                go_wp2
                refine ⟨?_, ?_⟩
                · first
                    | exact ⟨k + 1, by omega, by go_num, by rw [← hq2.out], T⟩
                    | ((repeat apply Exists.intro); exact ⟨⟨k + 1, by omega, by go_num, by rw [← hq2.out], T⟩, rfl⟩)
                · first | (simp [intOf, lenV]; omega) | (simp [intOf]; omega) | (simp [intOf]; done)
            · have hlt' : ¬ (k : Int) < (n12 : Int) := by omega
              have hkl : l.take k = l := List.take_of_length_le (by rw [← e12.out]; omega)
              rw [hkl, ← hok.out]
              clear hkl
              go_upto_region 20 with fail
              obtain ⟨w14, hw⟩ : ∃ q, q = wr.alloc (.cells #[.int .i64 0, .slice none 0 0] 24) := ⟨_, rfl⟩
              rw [← hw]
              have hE : Ext wr w14 := by rw [hw]; exact (Below.refl _ _).alloc (Nat.le_refl _) _
              have X18 : BoxG w14 wr.heap.size 0 none 0 0 := by rw [hw]; exact BoxN.new _ _ _
              clear hw
              have lp18 := T.size
              obtain ⟨p18, hp⟩ : ∃ q, q = wr.heap.size := ⟨_, rfl⟩
              rw [← hp] at X18 lp18 ⊢
              clear hp
              replace T := T.trans (hE.mono T.size)
              clear hE
              have TA := hide (TT.out.trans (T.mono TT.out.size))
              cases hqq : okOf nodes l with
              | true =>
                obtain ⟨o1, o2, o3⟩ := of_yes hqq
                obtain rfl : nodes = y1 := (hy1.out.trans o1).symm
                obtain rfl : y2 = 0 := hy2.out.trans o2
                replace o3 := hy3.out.trans o3
                have hlz3 : y3.length ≤ 80 := by rw [o3]; exact Nat.le_trans (ofE_len l) hlz
                replace o3 := hide o3
                replace hqq := hide hqq
                clear o1 o2
                go_wp2_with fail
                refine (few_any A3 m3 c3 zs _ hm3.out (h3.out.ext TA.out) hc3).mono ?_
                rintro e w15 ⟨v, rfl, hO, hE⟩
                rw [← hl.out] at hO
                replace X18 := X18.ext hE
                replace T := T.trans (hE.mono T.size)
                replace TA := hide (TA.out.trans (hE.mono TA.out.size))
                clear hE
                obtain ⟨A81, c81, rfl, r81, hcc81, -⟩ := hO.rd
                obtain ⟨n81, e81⟩ : ∃ q, q = List.length l := ⟨_, rfl⟩
                rw [← e81] at hcc81 ⊢
                replace r81 := hide r81
                replace e81 := hide e81
                clear hO
                go_wp2_with fail
                refine (refOf_any nodes A81 n81 c81 l _ r81.out e81.out (by have := e81.out; omega)).mono ?_
                rintro e w15b ⟨v, rfl, hO, hE⟩
                rw [← o3.out] at hO
                replace X18 := X18.ext hE
                replace T := T.trans (hE.mono T.size)
                replace TA := hide (TA.out.trans (hE.mono TA.out.size))
                clear hE r81 e81 hcc81
                obtain ⟨A82, c82, rfl, -, hcc82, -⟩ := hO.rd
                obtain ⟨n82, e82⟩ : ∃ q, q = List.length y3 := ⟨_, rfl⟩
                rw [← e82] at hcc82 ⊢
                have O82 := hO.base_le (Nat.zero_le _)
                rw [← e82] at O82
                replace O82 := hide O82
                replace e82 := hide e82
                clear hO
                have f0 := X18.free 0
                have f1 := X18.free 1
                have z0 := X18.cell 0 (v := .int .i64 0) rfl
                have z1 := X18.cell 1 (v := .slice none 0 0) rfl
                have zs18 := X18.lt
                go_upto_region 22 with fail
                obtain ⟨w15c, hw⟩ : ∃ q, q = (w15b.setCell ⟨p18, 0, none⟩ (.int .i64 nodes)).setCell ⟨p18, 1, none⟩ (.slice A82 n82 c82) := ⟨_, rfl⟩
                rw [← hw]
                have r82 : Hid (Rd edgeE w15c.heap.size w15c A82 y3) := hide (by rw [hw]; exact rdO ((O82.out.setN X18 (by decide) 0 (.int .i64 nodes)).setN (X18.set 0 (.int .i64 nodes)) (by decide) 1 (.slice A82 n82 c82)))
                have Y18 : BoxG w15c p18 nodes A82 n82 c82 := by rw [hw]; exact (X18.set 0 (.int .i64 nodes)).set 1 (.slice A82 n82 c82)
                replace T : Ext w12 w15c := by rw [hw]; exact (T.setCell (p := ⟨p18, 0, none⟩) lp18 _).setCell (p := ⟨p18, 1, none⟩) lp18 _
                replace TA : Hid (Ext w6 w15c) := hide (by rw [hw]; exact (TA.out.setCell (p := ⟨p18, 0, none⟩) (Nat.le_trans TT.out.size lp18) _).setCell (p := ⟨p18, 1, none⟩) (Nat.le_trans TT.out.size lp18) _)
                clear hw f0 f1 z0 z1 zs18 X18 O82
                have X18 := Y18
                clear Y18
                have k180 := X18.cell 0 (v := .int .i64 nodes) rfl
                have k181 := X18.cell 1 (v := .slice A82 n82 c82) rfl
                have s18 := X18.lt
                have k130 := (X13.out.ext T).cell 0 (v := .int .i64 nodes) rfl
                have k131 := (X13.out.ext T).cell 1 (v := .slice A13 n13 c13) rfl
                have s13 := (X13.out.ext T).lt
                go_wp2_with fail
                refine (refSame_any nodes nodes A13 A82 n13 c13 n82 c82 y3 y3 _ (r13.out.ext T) e13.out r82.out e82.out (by have := e13.out; have := hlz3; omega)).mono ?_
                rintro e w16 ⟨rfl, hE⟩
                rw [sameG_self]
                replace T := T.trans (hE.mono T.size)
                replace TA := hide (TA.out.trans (hE.mono TA.out.size))
                clear hE k180 k181 s18 X18
                clear k130 k131 s13
                go_wp2_with fail
                refine (few_any A3 m3 c3 zs _ hm3.out (h3.out.ext TA.out) hc3).mono ?_
                rintro e w17 ⟨v, rfl, hO, hE⟩
                rw [← hl.out] at hO
                replace T := T.trans (hE.mono T.size)
                replace TA := hide (TA.out.trans (hE.mono TA.out.size))
                clear hE
                obtain ⟨A95, c95, rfl, r95, hcc95, -⟩ := hO.rd
                obtain ⟨n95, e95⟩ : ∃ q, q = List.length l := ⟨_, rfl⟩
                rw [← e95] at hcc95 ⊢
                replace r95 := hide r95
                replace e95 := hide e95
                clear hO
                go_wp2_with fail
                refine (equal_Edge A12 A95 n12 c12 n95 c95 l l _ e12.out (r12.out.ext T) e95.out r95.out (by omega)).mono ?_
                rintro e w18 ⟨rfl, hE⟩
                try rw [show decide (l = l) = true from decide_eq_true rfl]
                replace T := T.trans (hE.mono T.size)
                replace TA := hide (TA.out.trans (hE.mono TA.out.size))
                clear hE r95 e95 hcc95 T
                have T := TA.out
                have k70 := (X7.out.ext T).cell 0 (v := .int .i64 g1) rfl
                have k71 := (X7.out.ext T).cell 1 (v := .slice A7 n7 c7) rfl
                have s7 := (X7.out.ext T).lt
                have k80 := (X8.out.ext T).cell 0 (v := .int .i64 g2) rfl
                have k81 := (X8.out.ext T).cell 1 (v := .slice A8 n8 c8) rfl
                have s8 := (X8.out.ext T).lt
                have k30 := (X3.out.ext T).cell 0 (v := .int .i64 g1) rfl
                have k31 := (X3.out.ext T).cell 1 (v := .slice A1 m1 c1) rfl
                have k32 := (X3.out.ext T).cell 2 (v := .int .i64 g2) rfl
                have k33 := (X3.out.ext T).cell 3 (v := .slice A2 m2 c2) rfl
                have s3 := (X3.out.ext T).lt
                have Q7 := hide (r7.out.ext T)
                have Q8 := hide (r8.out.ext T)
                have Q1 := hide (h1.out.ext T)
                clear T
                go_upto_region 24 with fail
                have T : Ext w18 w18.drew := (Below.refl _ _).drew
                refine wp_region_mix (fun W => Below w18.heap.size w18 W) [(0, true), (1, true), (3, true), (4, true), (2, false), (5, false), (6, true), (7, true), (8, true), (9, true), (10, true), (11, false), (12, false), (13, true), (14, true)] (by kernel_rfl) (by kernel_rfl) (by kernel_rfl) (by kernel_rfl) (fun _ _ d _ _ h => by cases d <;> exact h) ?_ ?_
                · exact T
                obtain ⟨wl, hwh⟩ : ∃ x, x = w18.drew := ⟨_, rfl⟩
                rw [← hwh] at T ⊢
                clear hwh
                iterate 4
                  apply mix_q rfl rfl
                  · intro W hW
                    have hcW := (bcell hW).1
                    go_simp
                    try exact rfl
                  simp only [Act.put, List.setIfInBounds_toArray, List.set_cons_zero, List.set_cons_succ]
                refine mix_w rfl rfl (fun K hK => ?_)
                go_simp
                refine (same_any g1 g2 A7 A8 n7 c7 n8 c8 a b _ (Q7.out.ext T) e7.out (Q8.out.ext T) e8.out hl7b).mono ?_
                rintro e w19 ⟨rfl, hE⟩
                refine hK _ _ (T.trans (hE.mono T.size)) ?_
                clear hK K
                try simp only [Act.put, List.setIfInBounds_toArray, List.set_cons_zero, List.set_cons_succ]
                replace T := T.trans (hE.mono T.size)
                clear hE
                refine mix_w rfl rfl (fun K hK => ?_)
                go_simp
                refine (refSame_any g1 g2 A7 A8 n7 c7 n8 c8 a b _ (Q7.out.ext T) e7.out (Q8.out.ext T) e8.out hl7b).mono ?_
                rintro e w20 ⟨rfl, hE⟩
                refine hK _ _ (T.trans (hE.mono T.size)) ?_
                clear hK K
                try simp only [Act.put, List.setIfInBounds_toArray, List.set_cons_zero, List.set_cons_succ]
                replace T := T.trans (hE.mono T.size)
                clear hE
                obtain ⟨qs, hqs⟩ : ∃ q, q = sameG g1 a g2 b := ⟨_, rfl⟩
                rw [← hqs]
                clear hqs
                have hqe : (qs == qs) = true := by cases qs <;> rfl
                iterate 2
                  apply mix_q rfl rfl
                  · intro W hW
                    have hcW := (bcell hW).1
                    go_simp
                    try exact rfl
                  simp only [Act.put, List.setIfInBounds_toArray, List.set_cons_zero, List.set_cons_succ]
                try rw [hqe]
                iterate 3
                  apply mix_on rfl (wanted_is rfl rfl rfl rfl rfl)
                  · intro W hW
                    have hcW := (bcell hW).1
                    go_simp
                    try exact rfl
                  simp only [Act.put, List.setIfInBounds_toArray, List.set_cons_zero, List.set_cons_succ]
                refine mix_won rfl (wanted_is rfl rfl rfl rfl rfl) (fun K hK => ?_)
                go_simp
                refine (fair_any g1 A1 m1 c1 xs _ (Q1.out.ext T) hm1.out hc1).mono ?_
                rintro e w21 ⟨v, rfl, hO, hE⟩
                refine hK _ _ (T.trans (hE.mono T.size)) ?_
                clear hK K
                try simp only [Act.put, List.setIfInBounds_toArray, List.set_cons_zero, List.set_cons_succ]
                replace T := T.trans (hE.mono T.size)
                rw [← ha.out] at hO
                clear hE
                obtain ⟨A110, c110, rfl, r110, hcc110, -⟩ := hO.rd
                obtain ⟨n110, e110⟩ : ∃ q, q = List.length a := ⟨_, rfl⟩
                rw [← e110] at hcc110 ⊢
                replace r110 := hide r110
                replace e110 := hide e110
                clear hO
                refine mix_won rfl (wanted_is rfl rfl rfl rfl rfl) (fun K hK => ?_)
                go_simp
                refine (same_any g1 g1 A7 A110 n7 c7 n110 c110 a a _ (Q7.out.ext T) e7.out r110.out e110.out hl7b).mono ?_
                rintro e w22 ⟨rfl, hE⟩
                refine hK _ _ (T.trans (hE.mono T.size)) ?_
                clear hK K
                try simp only [Act.put, List.setIfInBounds_toArray, List.set_cons_zero, List.set_cons_succ]
                replace T := T.trans (hE.mono T.size)
                rw [sameG_self]
                clear hE
                iterate 2
                  apply mix_q rfl rfl
                  · intro W hW
                    have hcW := (bcell hW).1
                    go_simp
                    try exact rfl
                  simp only [Act.put, List.setIfInBounds_toArray, List.set_cons_zero, List.set_cons_succ]
                refine mix_nil ?_
                go_wp2
                go_ret
                exact ⟨rfl, hB.out.trans ((TA.out.trans (T.mono TA.out.size)).mono hB.out.size)⟩
              | false =>
                obtain ⟨o1, o2, o3⟩ := of_no hqq
                obtain rfl : y1 = 0 := hy1.out.trans o1
                obtain rfl : y2 = 2 := hy2.out.trans o2
                obtain rfl : y3 = [] := hy3.out.trans o3
                have hlz3 : ([] : List (Int × Int × Int)).length ≤ 80 := by decide
                obtain rfl : n13 = 0 := e13.out
                replace hqq := hide hqq
                clear o1 o2 o3
                go_upto_region 22 with fail
                have k180 := X18.cell 0 (v := .int .i64 0) rfl
                have k181 := X18.cell 1 (v := .slice none 0 0) rfl
                have s18 := X18.lt
                have k130 := (X13.out.ext T).cell 0 (v := .int .i64 0) rfl
                have k131 := (X13.out.ext T).cell 1 (v := .slice A13 0 c13) rfl
                have s13 := (X13.out.ext T).lt
                go_wp2_with fail
                refine (refSame_any 0 0 A13 none 0 c13 0 0 [] [] _ (r13.out.ext T) e13.out Rd.nil_ rfl (by have := e13.out; have := hlz3; omega)).mono ?_
                rintro e w16 ⟨rfl, hE⟩
                rw [sameG_self]
                replace T := T.trans (hE.mono T.size)
                replace TA := hide (TA.out.trans (hE.mono TA.out.size))
                clear hE k180 k181 s18 X18
                clear k130 k131 s13
                go_wp2_with fail
                refine (few_any A3 m3 c3 zs _ hm3.out (h3.out.ext TA.out) hc3).mono ?_
                rintro e w17 ⟨v, rfl, hO, hE⟩
                rw [← hl.out] at hO
                replace T := T.trans (hE.mono T.size)
                replace TA := hide (TA.out.trans (hE.mono TA.out.size))
                clear hE
                obtain ⟨A95, c95, rfl, r95, hcc95, -⟩ := hO.rd
                obtain ⟨n95, e95⟩ : ∃ q, q = List.length l := ⟨_, rfl⟩
                rw [← e95] at hcc95 ⊢
                replace r95 := hide r95
                replace e95 := hide e95
                clear hO
                go_wp2_with fail
                refine (equal_Edge A12 A95 n12 c12 n95 c95 l l _ e12.out (r12.out.ext T) e95.out r95.out (by omega)).mono ?_
                rintro e w18 ⟨rfl, hE⟩
                try rw [show decide (l = l) = true from decide_eq_true rfl]
                replace T := T.trans (hE.mono T.size)
                replace TA := hide (TA.out.trans (hE.mono TA.out.size))
                clear hE r95 e95 hcc95 T
                have T := TA.out
                have k70 := (X7.out.ext T).cell 0 (v := .int .i64 g1) rfl
                have k71 := (X7.out.ext T).cell 1 (v := .slice A7 n7 c7) rfl
                have s7 := (X7.out.ext T).lt
                have k80 := (X8.out.ext T).cell 0 (v := .int .i64 g2) rfl
                have k81 := (X8.out.ext T).cell 1 (v := .slice A8 n8 c8) rfl
                have s8 := (X8.out.ext T).lt
                have k30 := (X3.out.ext T).cell 0 (v := .int .i64 g1) rfl
                have k31 := (X3.out.ext T).cell 1 (v := .slice A1 m1 c1) rfl
                have k32 := (X3.out.ext T).cell 2 (v := .int .i64 g2) rfl
                have k33 := (X3.out.ext T).cell 3 (v := .slice A2 m2 c2) rfl
                have s3 := (X3.out.ext T).lt
                have Q7 := hide (r7.out.ext T)
                have Q8 := hide (r8.out.ext T)
                have Q1 := hide (h1.out.ext T)
                clear T
                go_upto_region 24 with fail
                have T : Ext w18 w18.drew := (Below.refl _ _).drew
                refine wp_region_mix (fun W => Below w18.heap.size w18 W) [(0, true), (1, true), (3, true), (4, true), (2, false), (5, false), (6, true), (7, true), (8, true), (9, true), (10, true), (11, false), (12, false), (13, true), (14, true)] (by kernel_rfl) (by kernel_rfl) (by kernel_rfl) (by kernel_rfl) (fun _ _ d _ _ h => by cases d <;> exact h) ?_ ?_
                · exact T
                obtain ⟨wl, hwh⟩ : ∃ x, x = w18.drew := ⟨_, rfl⟩
                rw [← hwh] at T ⊢
                clear hwh
                iterate 4
                  apply mix_q rfl rfl
                  · intro W hW
                    have hcW := (bcell hW).1
                    go_simp
                    try exact rfl
                  simp only [Act.put, List.setIfInBounds_toArray, List.set_cons_zero, List.set_cons_succ]
                refine mix_w rfl rfl (fun K hK => ?_)
                go_simp
                refine (same_any g1 g2 A7 A8 n7 c7 n8 c8 a b _ (Q7.out.ext T) e7.out (Q8.out.ext T) e8.out hl7b).mono ?_
                rintro e w19 ⟨rfl, hE⟩
                refine hK _ _ (T.trans (hE.mono T.size)) ?_
                clear hK K
                try simp only [Act.put, List.setIfInBounds_toArray, List.set_cons_zero, List.set_cons_succ]
                replace T := T.trans (hE.mono T.size)
                clear hE
                refine mix_w rfl rfl (fun K hK => ?_)
                go_simp
                refine (refSame_any g1 g2 A7 A8 n7 c7 n8 c8 a b _ (Q7.out.ext T) e7.out (Q8.out.ext T) e8.out hl7b).mono ?_
                rintro e w20 ⟨rfl, hE⟩
                refine hK _ _ (T.trans (hE.mono T.size)) ?_
                clear hK K
                try simp only [Act.put, List.setIfInBounds_toArray, List.set_cons_zero, List.set_cons_succ]
                replace T := T.trans (hE.mono T.size)
                clear hE
                obtain ⟨qs, hqs⟩ : ∃ q, q = sameG g1 a g2 b := ⟨_, rfl⟩
                rw [← hqs]
                clear hqs
                have hqe : (qs == qs) = true := by cases qs <;> rfl
                iterate 2
                  apply mix_q rfl rfl
                  · intro W hW
                    have hcW := (bcell hW).1
                    go_simp
                    try exact rfl
                  simp only [Act.put, List.setIfInBounds_toArray, List.set_cons_zero, List.set_cons_succ]
                try rw [hqe]
                iterate 3
                  apply mix_on rfl (wanted_is rfl rfl rfl rfl rfl)
                  · intro W hW
                    have hcW := (bcell hW).1
                    go_simp
                    try exact rfl
                  simp only [Act.put, List.setIfInBounds_toArray, List.set_cons_zero, List.set_cons_succ]
                refine mix_won rfl (wanted_is rfl rfl rfl rfl rfl) (fun K hK => ?_)
                go_simp
                refine (fair_any g1 A1 m1 c1 xs _ (Q1.out.ext T) hm1.out hc1).mono ?_
                rintro e w21 ⟨v, rfl, hO, hE⟩
                refine hK _ _ (T.trans (hE.mono T.size)) ?_
                clear hK K
                try simp only [Act.put, List.setIfInBounds_toArray, List.set_cons_zero, List.set_cons_succ]
                replace T := T.trans (hE.mono T.size)
                rw [← ha.out] at hO
                clear hE
                obtain ⟨A110, c110, rfl, r110, hcc110, -⟩ := hO.rd
                obtain ⟨n110, e110⟩ : ∃ q, q = List.length a := ⟨_, rfl⟩
                rw [← e110] at hcc110 ⊢
                replace r110 := hide r110
                replace e110 := hide e110
                clear hO
                refine mix_won rfl (wanted_is rfl rfl rfl rfl rfl) (fun K hK => ?_)
                go_simp
                refine (same_any g1 g1 A7 A110 n7 c7 n110 c110 a a _ (Q7.out.ext T) e7.out r110.out e110.out hl7b).mono ?_
                rintro e w22 ⟨rfl, hE⟩
                refine hK _ _ (T.trans (hE.mono T.size)) ?_
                clear hK K
                try simp only [Act.put, List.setIfInBounds_toArray, List.set_cons_zero, List.set_cons_succ]
                replace T := T.trans (hE.mono T.size)
                rw [sameG_self]
                clear hE
                iterate 2
                  apply mix_q rfl rfl
                  · intro W hW
                    have hcW := (bcell hW).1
                    go_simp
                    try exact rfl
                  simp only [Act.put, List.setIfInBounds_toArray, List.set_cons_zero, List.set_cons_succ]
                refine mix_nil ?_
                go_wp2
                go_ret
                exact ⟨rfl, hB.out.trans ((TA.out.trans (T.mono TA.out.size)).mono hB.out.size)⟩
      · have hq0t : q0 = false := by rw [hq0, decide_eq_false hn0, Bool.false_and]
        clear hq0
        go_wp2
        go_loopw [15, 66] (fun b i wr => ∃ k : Nat, k ≤ n12 ∧ i = .int .i64 k ∧ b = .bool (q0 && (l.take k).all (rightE nodes)) ∧ Ext w12 wr) (fun _ i _ => n12 - (intOf i).toNat)
        case atStart => exact ⟨0, Nat.zero_le _, rfl, by simp [hq0t], Below.refl _ _⟩
        case round =>
          obtain ⟨k, hk, rfl, rfl, T⟩ := hrel
          by_cases hlt : k < n12
          · have hlt' : (k : Int) < (n12 : Int) := by omega
            obtain ⟨bk, off, rfl, ra⟩ := (r12.out.ext T).at_ (i := k) (by rw [← e12.out]; exact hlt)
            obtain ⟨⟨p1, p2, p3⟩, hx⟩ := get_some (xs := l) (i := k) (by rw [← e12.out]; exact hlt)
            obtain ⟨hx1, hx2, hx3⟩ := ra.edge hx
            have hb1 := ra.1
            have hts : Hid ((l.take (k + 1)).all (rightE nodes) = ((l.take k).all (rightE nodes) && rightE nodes (p1, p2, p3))) := hide (by rw [take_snoc hx, List.all_append]; simp)
            replace hx := hide hx
            replace ra := hide ra
            go_upto_region 17 with fail
            obtain ⟨w13, hw1⟩ : ∃ x, x = World.alloc wr (.cells #[.int .i64 p1, .int .i64 p2, .int .i64 p3] 35) := ⟨_, rfl⟩
            rw [← hw1]
            have hE1 : Ext wr w13 := by rw [hw1]; exact (Below.refl _ _).alloc (Nat.le_refl _) _
            have X17 : BoxN w13 (World.heap wr).size 35 #[.int .i64 p1, .int .i64 p2, .int .i64 p3] := by rw [hw1]; exact BoxN.new _ _ _
            clear hw1
            obtain ⟨p17, hpe⟩ : ∃ b, b = (World.heap wr).size := ⟨_, rfl⟩
            rw [← hpe] at X17 ⊢
            clear hpe
            clear hx1 hx2 hx3 hb1
            replace T := T.trans (hE1.mono T.size)
            have k0 := X17.cell 0 (v := .int .i64 p1) rfl
            have k1 := X17.cell 1 (v := .int .i64 p2) rfl
            have k2 := X17.cell 2 (v := .int .i64 p3) rfl
            have s17 := X17.lt
            obtain ⟨qk, hqk⟩ : ∃ q, q = (q0 && (l.take k).all (rightE nodes)) := ⟨_, rfl⟩
            rw [← hqk]
            have hq1 : Hid ((q0 && (l.take (k + 1)).all (rightE nodes)) = (qk && rightE nodes (p1, p2, p3))) := hide (by rw [hts.out, hqk, Bool.and_assoc])
            clear hqk
            cases qk with
            | false =>
              have hq2 : Hid (false = (q0 && (l.take (k + 1)).all (rightE nodes))) := hide (by rw [hq1.out]; rfl)
              go_wp2
              refine ⟨?_, ?_⟩
              · first
                  | exact ⟨k + 1, by omega, by go_num, by rw [← hq2.out], T⟩
                  | ((repeat apply Exists.intro); exact ⟨⟨k + 1, by omega, by go_num, by rw [← hq2.out], T⟩, rfl⟩)
              · first | (simp [intOf, lenV]; omega) | (simp [intOf]; omega) | (simp [intOf]; done)
            | true =>
              go_wp2_with fail
              refine (rightEdge_any nodes p1 p2 p3 _).mono ?_
              rintro e w14 ⟨rfl, hE⟩
              have hq2 : Hid (rightE nodes (p1, p2, p3) = (q0 && (l.take (k + 1)).all (rightE nodes))) := hide (by rw [hq1.out]; rfl)
              replace T := T.trans (hE.mono T.size)
              clear hE k0 k1 k2 s17
              go_wp2
              refine ⟨?_, ?_⟩
              · first
                  | exact ⟨k + 1, by omega, by go_num, by rw [← hq2.out], T⟩
                  | ((repeat apply Exists.intro); exact ⟨⟨k + 1, by omega, by go_num, by rw [← hq2.out], T⟩, rfl⟩)
              · first | (simp [intOf, lenV]; omega) | (simp [intOf]; omega) | (simp [intOf]; done)
          · have hlt' : ¬ (k : Int) < (n12 : Int) := by omega
            have hkl : l.take k = l := List.take_of_length_le (by rw [← e12.out]; omega)
            rw [hkl, ← hok.out]
            clear hkl
            go_upto_region 20 with fail
            obtain ⟨w14, hw⟩ : ∃ q, q = wr.alloc (.cells #[.int .i64 0, .slice none 0 0] 24) := ⟨_, rfl⟩
            rw [← hw]
            have hE : Ext wr w14 := by rw [hw]; exact (Below.refl _ _).alloc (Nat.le_refl _) _
            have X18 : BoxG w14 wr.heap.size 0 none 0 0 := by rw [hw]; exact BoxN.new _ _ _
            clear hw
            have lp18 := T.size
            obtain ⟨p18, hp⟩ : ∃ q, q = wr.heap.size := ⟨_, rfl⟩
            rw [← hp] at X18 lp18 ⊢
            clear hp
            replace T := T.trans (hE.mono T.size)
            clear hE
            have TA := hide (TT.out.trans (T.mono TT.out.size))
            cases hqq : okOf nodes l with
            | true =>
              obtain ⟨o1, o2, o3⟩ := of_yes hqq
              obtain rfl : nodes = y1 := (hy1.out.trans o1).symm
              obtain rfl : y2 = 0 := hy2.out.trans o2
              replace o3 := hy3.out.trans o3
              have hlz3 : y3.length ≤ 80 := by rw [o3]; exact Nat.le_trans (ofE_len l) hlz
              replace o3 := hide o3
              replace hqq := hide hqq
              clear o1 o2
              go_wp2_with fail
              refine (few_any A3 m3 c3 zs _ hm3.out (h3.out.ext TA.out) hc3).mono ?_
              rintro e w15 ⟨v, rfl, hO, hE⟩
              rw [← hl.out] at hO
              replace X18 := X18.ext hE
              replace T := T.trans (hE.mono T.size)
              replace TA := hide (TA.out.trans (hE.mono TA.out.size))
              clear hE
              obtain ⟨A81, c81, rfl, r81, hcc81, -⟩ := hO.rd
              obtain ⟨n81, e81⟩ : ∃ q, q = List.length l := ⟨_, rfl⟩
              rw [← e81] at hcc81 ⊢
              replace r81 := hide r81
              replace e81 := hide e81
              clear hO
              go_wp2_with fail
              refine (refOf_any nodes A81 n81 c81 l _ r81.out e81.out (by have := e81.out; omega)).mono ?_
              rintro e w15b ⟨v, rfl, hO, hE⟩
              rw [← o3.out] at hO
              replace X18 := X18.ext hE
              replace T := T.trans (hE.mono T.size)
              replace TA := hide (TA.out.trans (hE.mono TA.out.size))
              clear hE r81 e81 hcc81
              obtain ⟨A82, c82, rfl, -, hcc82, -⟩ := hO.rd
              obtain ⟨n82, e82⟩ : ∃ q, q = List.length y3 := ⟨_, rfl⟩
              rw [← e82] at hcc82 ⊢
              have O82 := hO.base_le (Nat.zero_le _)
              rw [← e82] at O82
              replace O82 := hide O82
              replace e82 := hide e82
              clear hO
              have f0 := X18.free 0
              have f1 := X18.free 1
              have z0 := X18.cell 0 (v := .int .i64 0) rfl
              have z1 := X18.cell 1 (v := .slice none 0 0) rfl
              have zs18 := X18.lt
              go_upto_region 22 with fail
              obtain ⟨w15c, hw⟩ : ∃ q, q = (w15b.setCell ⟨p18, 0, none⟩ (.int .i64 nodes)).setCell ⟨p18, 1, none⟩ (.slice A82 n82 c82) := ⟨_, rfl⟩
              rw [← hw]
              have r82 : Hid (Rd edgeE w15c.heap.size w15c A82 y3) := hide (by rw [hw]; exact rdO ((O82.out.setN X18 (by decide) 0 (.int .i64 nodes)).setN (X18.set 0 (.int .i64 nodes)) (by decide) 1 (.slice A82 n82 c82)))
              have Y18 : BoxG w15c p18 nodes A82 n82 c82 := by rw [hw]; exact (X18.set 0 (.int .i64 nodes)).set 1 (.slice A82 n82 c82)
              replace T : Ext w12 w15c := by rw [hw]; exact (T.setCell (p := ⟨p18, 0, none⟩) lp18 _).setCell (p := ⟨p18, 1, none⟩) lp18 _
              replace TA : Hid (Ext w6 w15c) := hide (by rw [hw]; exact (TA.out.setCell (p := ⟨p18, 0, none⟩) (Nat.le_trans TT.out.size lp18) _).setCell (p := ⟨p18, 1, none⟩) (Nat.le_trans TT.out.size lp18) _)
              clear hw f0 f1 z0 z1 zs18 X18 O82
              have X18 := Y18
              clear Y18
              have k180 := X18.cell 0 (v := .int .i64 nodes) rfl
              have k181 := X18.cell 1 (v := .slice A82 n82 c82) rfl
              have s18 := X18.lt
              have k130 := (X13.out.ext T).cell 0 (v := .int .i64 nodes) rfl
              have k131 := (X13.out.ext T).cell 1 (v := .slice A13 n13 c13) rfl
              have s13 := (X13.out.ext T).lt
              go_wp2_with fail
              refine (refSame_any nodes nodes A13 A82 n13 c13 n82 c82 y3 y3 _ (r13.out.ext T) e13.out r82.out e82.out (by have := e13.out; have := hlz3; omega)).mono ?_
              rintro e w16 ⟨rfl, hE⟩
              rw [sameG_self]
              replace T := T.trans (hE.mono T.size)
              replace TA := hide (TA.out.trans (hE.mono TA.out.size))
              clear hE k180 k181 s18 X18
              clear k130 k131 s13
              go_wp2_with fail
              refine (few_any A3 m3 c3 zs _ hm3.out (h3.out.ext TA.out) hc3).mono ?_
              rintro e w17 ⟨v, rfl, hO, hE⟩
              rw [← hl.out] at hO
              replace T := T.trans (hE.mono T.size)
              replace TA := hide (TA.out.trans (hE.mono TA.out.size))
              clear hE
              obtain ⟨A95, c95, rfl, r95, hcc95, -⟩ := hO.rd
              obtain ⟨n95, e95⟩ : ∃ q, q = List.length l := ⟨_, rfl⟩
              rw [← e95] at hcc95 ⊢
              replace r95 := hide r95
              replace e95 := hide e95
              clear hO
              go_wp2_with fail
              refine (equal_Edge A12 A95 n12 c12 n95 c95 l l _ e12.out (r12.out.ext T) e95.out r95.out (by omega)).mono ?_
              rintro e w18 ⟨rfl, hE⟩
              try rw [show decide (l = l) = true from decide_eq_true rfl]
              replace T := T.trans (hE.mono T.size)
              replace TA := hide (TA.out.trans (hE.mono TA.out.size))
              clear hE r95 e95 hcc95 T
              have T := TA.out
              have k70 := (X7.out.ext T).cell 0 (v := .int .i64 g1) rfl
              have k71 := (X7.out.ext T).cell 1 (v := .slice A7 n7 c7) rfl
              have s7 := (X7.out.ext T).lt
              have k80 := (X8.out.ext T).cell 0 (v := .int .i64 g2) rfl
              have k81 := (X8.out.ext T).cell 1 (v := .slice A8 n8 c8) rfl
              have s8 := (X8.out.ext T).lt
              have k30 := (X3.out.ext T).cell 0 (v := .int .i64 g1) rfl
              have k31 := (X3.out.ext T).cell 1 (v := .slice A1 m1 c1) rfl
              have k32 := (X3.out.ext T).cell 2 (v := .int .i64 g2) rfl
              have k33 := (X3.out.ext T).cell 3 (v := .slice A2 m2 c2) rfl
              have s3 := (X3.out.ext T).lt
              have Q7 := hide (r7.out.ext T)
              have Q8 := hide (r8.out.ext T)
              have Q1 := hide (h1.out.ext T)
              clear T
              go_upto_region 24 with fail
              have T : Ext w18 w18.drew := (Below.refl _ _).drew
              refine wp_region_mix (fun W => Below w18.heap.size w18 W) [(0, true), (1, true), (3, true), (4, true), (2, false), (5, false), (6, true), (7, true), (8, true), (9, true), (10, true), (11, false), (12, false), (13, true), (14, true)] (by kernel_rfl) (by kernel_rfl) (by kernel_rfl) (by kernel_rfl) (fun _ _ d _ _ h => by cases d <;> exact h) ?_ ?_
              · exact T
              obtain ⟨wl, hwh⟩ : ∃ x, x = w18.drew := ⟨_, rfl⟩
              rw [← hwh] at T ⊢
              clear hwh
              iterate 4
                apply mix_q rfl rfl
                · intro W hW
                  have hcW := (bcell hW).1
                  go_simp
                  try exact rfl
                simp only [Act.put, List.setIfInBounds_toArray, List.set_cons_zero, List.set_cons_succ]
              refine mix_w rfl rfl (fun K hK => ?_)
              go_simp
              refine (same_any g1 g2 A7 A8 n7 c7 n8 c8 a b _ (Q7.out.ext T) e7.out (Q8.out.ext T) e8.out hl7b).mono ?_
              rintro e w19 ⟨rfl, hE⟩
              refine hK _ _ (T.trans (hE.mono T.size)) ?_
              clear hK K
              try simp only [Act.put, List.setIfInBounds_toArray, List.set_cons_zero, List.set_cons_succ]
              replace T := T.trans (hE.mono T.size)
              clear hE
              refine mix_w rfl rfl (fun K hK => ?_)
              go_simp
              refine (refSame_any g1 g2 A7 A8 n7 c7 n8 c8 a b _ (Q7.out.ext T) e7.out (Q8.out.ext T) e8.out hl7b).mono ?_
              rintro e w20 ⟨rfl, hE⟩
              refine hK _ _ (T.trans (hE.mono T.size)) ?_
              clear hK K
              try simp only [Act.put, List.setIfInBounds_toArray, List.set_cons_zero, List.set_cons_succ]
              replace T := T.trans (hE.mono T.size)
              clear hE
              obtain ⟨qs, hqs⟩ : ∃ q, q = sameG g1 a g2 b := ⟨_, rfl⟩
              rw [← hqs]
              clear hqs
              have hqe : (qs == qs) = true := by cases qs <;> rfl
              iterate 2
                apply mix_q rfl rfl
                · intro W hW
                  have hcW := (bcell hW).1
                  go_simp
                  try exact rfl
                simp only [Act.put, List.setIfInBounds_toArray, List.set_cons_zero, List.set_cons_succ]
              try rw [hqe]
              iterate 3
                apply mix_on rfl (wanted_is rfl rfl rfl rfl rfl)
                · intro W hW
                  have hcW := (bcell hW).1
                  go_simp
                  try exact rfl
                simp only [Act.put, List.setIfInBounds_toArray, List.set_cons_zero, List.set_cons_succ]
              refine mix_won rfl (wanted_is rfl rfl rfl rfl rfl) (fun K hK => ?_)
              go_simp
              refine (fair_any g1 A1 m1 c1 xs _ (Q1.out.ext T) hm1.out hc1).mono ?_
              rintro e w21 ⟨v, rfl, hO, hE⟩
              refine hK _ _ (T.trans (hE.mono T.size)) ?_
              clear hK K
              try simp only [Act.put, List.setIfInBounds_toArray, List.set_cons_zero, List.set_cons_succ]
              replace T := T.trans (hE.mono T.size)
              rw [← ha.out] at hO
              clear hE
              obtain ⟨A110, c110, rfl, r110, hcc110, -⟩ := hO.rd
              obtain ⟨n110, e110⟩ : ∃ q, q = List.length a := ⟨_, rfl⟩
              rw [← e110] at hcc110 ⊢
              replace r110 := hide r110
              replace e110 := hide e110
              clear hO
              refine mix_won rfl (wanted_is rfl rfl rfl rfl rfl) (fun K hK => ?_)
              go_simp
              refine (same_any g1 g1 A7 A110 n7 c7 n110 c110 a a _ (Q7.out.ext T) e7.out r110.out e110.out hl7b).mono ?_
              rintro e w22 ⟨rfl, hE⟩
              refine hK _ _ (T.trans (hE.mono T.size)) ?_
              clear hK K
              try simp only [Act.put, List.setIfInBounds_toArray, List.set_cons_zero, List.set_cons_succ]
              replace T := T.trans (hE.mono T.size)
              rw [sameG_self]
              clear hE
              iterate 2
                apply mix_q rfl rfl
                · intro W hW
                  have hcW := (bcell hW).1
                  go_simp
                  try exact rfl
                simp only [Act.put, List.setIfInBounds_toArray, List.set_cons_zero, List.set_cons_succ]
              refine mix_nil ?_
              go_wp2
              go_ret
              exact ⟨rfl, hB.out.trans ((TA.out.trans (T.mono TA.out.size)).mono hB.out.size)⟩
            | false =>
              obtain ⟨o1, o2, o3⟩ := of_no hqq
              obtain rfl : y1 = 0 := hy1.out.trans o1
              obtain rfl : y2 = 2 := hy2.out.trans o2
              obtain rfl : y3 = [] := hy3.out.trans o3
              have hlz3 : ([] : List (Int × Int × Int)).length ≤ 80 := by decide
              obtain rfl : n13 = 0 := e13.out
              replace hqq := hide hqq
              clear o1 o2 o3
              go_upto_region 22 with fail
              have k180 := X18.cell 0 (v := .int .i64 0) rfl
              have k181 := X18.cell 1 (v := .slice none 0 0) rfl
              have s18 := X18.lt
              have k130 := (X13.out.ext T).cell 0 (v := .int .i64 0) rfl
              have k131 := (X13.out.ext T).cell 1 (v := .slice A13 0 c13) rfl
              have s13 := (X13.out.ext T).lt
              go_wp2_with fail
              refine (refSame_any 0 0 A13 none 0 c13 0 0 [] [] _ (r13.out.ext T) e13.out Rd.nil_ rfl (by have := e13.out; have := hlz3; omega)).mono ?_
              rintro e w16 ⟨rfl, hE⟩
              rw [sameG_self]
              replace T := T.trans (hE.mono T.size)
              replace TA := hide (TA.out.trans (hE.mono TA.out.size))
              clear hE k180 k181 s18 X18
              clear k130 k131 s13
              go_wp2_with fail
              refine (few_any A3 m3 c3 zs _ hm3.out (h3.out.ext TA.out) hc3).mono ?_
              rintro e w17 ⟨v, rfl, hO, hE⟩
              rw [← hl.out] at hO
              replace T := T.trans (hE.mono T.size)
              replace TA := hide (TA.out.trans (hE.mono TA.out.size))
              clear hE
              obtain ⟨A95, c95, rfl, r95, hcc95, -⟩ := hO.rd
              obtain ⟨n95, e95⟩ : ∃ q, q = List.length l := ⟨_, rfl⟩
              rw [← e95] at hcc95 ⊢
              replace r95 := hide r95
              replace e95 := hide e95
              clear hO
              go_wp2_with fail
              refine (equal_Edge A12 A95 n12 c12 n95 c95 l l _ e12.out (r12.out.ext T) e95.out r95.out (by omega)).mono ?_
              rintro e w18 ⟨rfl, hE⟩
              try rw [show decide (l = l) = true from decide_eq_true rfl]
              replace T := T.trans (hE.mono T.size)
              replace TA := hide (TA.out.trans (hE.mono TA.out.size))
              clear hE r95 e95 hcc95 T
              have T := TA.out
              have k70 := (X7.out.ext T).cell 0 (v := .int .i64 g1) rfl
              have k71 := (X7.out.ext T).cell 1 (v := .slice A7 n7 c7) rfl
              have s7 := (X7.out.ext T).lt
              have k80 := (X8.out.ext T).cell 0 (v := .int .i64 g2) rfl
              have k81 := (X8.out.ext T).cell 1 (v := .slice A8 n8 c8) rfl
              have s8 := (X8.out.ext T).lt
              have k30 := (X3.out.ext T).cell 0 (v := .int .i64 g1) rfl
              have k31 := (X3.out.ext T).cell 1 (v := .slice A1 m1 c1) rfl
              have k32 := (X3.out.ext T).cell 2 (v := .int .i64 g2) rfl
              have k33 := (X3.out.ext T).cell 3 (v := .slice A2 m2 c2) rfl
              have s3 := (X3.out.ext T).lt
              have Q7 := hide (r7.out.ext T)
              have Q8 := hide (r8.out.ext T)
              have Q1 := hide (h1.out.ext T)
              clear T
              go_upto_region 24 with fail
              have T : Ext w18 w18.drew := (Below.refl _ _).drew
              refine wp_region_mix (fun W => Below w18.heap.size w18 W) [(0, true), (1, true), (3, true), (4, true), (2, false), (5, false), (6, true), (7, true), (8, true), (9, true), (10, true), (11, false), (12, false), (13, true), (14, true)] (by kernel_rfl) (by kernel_rfl) (by kernel_rfl) (by kernel_rfl) (fun _ _ d _ _ h => by cases d <;> exact h) ?_ ?_
              · exact T
              obtain ⟨wl, hwh⟩ : ∃ x, x = w18.drew := ⟨_, rfl⟩
              rw [← hwh] at T ⊢
              clear hwh
              iterate 4
                apply mix_q rfl rfl
                · intro W hW
                  have hcW := (bcell hW).1
                  go_simp
                  try exact rfl
                simp only [Act.put, List.setIfInBounds_toArray, List.set_cons_zero, List.set_cons_succ]
              refine mix_w rfl rfl (fun K hK => ?_)
              go_simp
              refine (same_any g1 g2 A7 A8 n7 c7 n8 c8 a b _ (Q7.out.ext T) e7.out (Q8.out.ext T) e8.out hl7b).mono ?_
              rintro e w19 ⟨rfl, hE⟩
              refine hK _ _ (T.trans (hE.mono T.size)) ?_
              clear hK K
              try simp only [Act.put, List.setIfInBounds_toArray, List.set_cons_zero, List.set_cons_succ]
              replace T := T.trans (hE.mono T.size)
              clear hE
              refine mix_w rfl rfl (fun K hK => ?_)
              go_simp
              refine (refSame_any g1 g2 A7 A8 n7 c7 n8 c8 a b _ (Q7.out.ext T) e7.out (Q8.out.ext T) e8.out hl7b).mono ?_
              rintro e w20 ⟨rfl, hE⟩
              refine hK _ _ (T.trans (hE.mono T.size)) ?_
              clear hK K
              try simp only [Act.put, List.setIfInBounds_toArray, List.set_cons_zero, List.set_cons_succ]
              replace T := T.trans (hE.mono T.size)
              clear hE
              obtain ⟨qs, hqs⟩ : ∃ q, q = sameG g1 a g2 b := ⟨_, rfl⟩
              rw [← hqs]
              clear hqs
              have hqe : (qs == qs) = true := by cases qs <;> rfl
              iterate 2
                apply mix_q rfl rfl
                · intro W hW
                  have hcW := (bcell hW).1
                  go_simp
                  try exact rfl
                simp only [Act.put, List.setIfInBounds_toArray, List.set_cons_zero, List.set_cons_succ]
              try rw [hqe]
              iterate 3
                apply mix_on rfl (wanted_is rfl rfl rfl rfl rfl)
                · intro W hW
                  have hcW := (bcell hW).1
                  go_simp
                  try exact rfl
                simp only [Act.put, List.setIfInBounds_toArray, List.set_cons_zero, List.set_cons_succ]
              refine mix_won rfl (wanted_is rfl rfl rfl rfl rfl) (fun K hK => ?_)
              go_simp
              refine (fair_any g1 A1 m1 c1 xs _ (Q1.out.ext T) hm1.out hc1).mono ?_
              rintro e w21 ⟨v, rfl, hO, hE⟩
              refine hK _ _ (T.trans (hE.mono T.size)) ?_
              clear hK K
              try simp only [Act.put, List.setIfInBounds_toArray, List.set_cons_zero, List.set_cons_succ]
              replace T := T.trans (hE.mono T.size)
              rw [← ha.out] at hO
              clear hE
              obtain ⟨A110, c110, rfl, r110, hcc110, -⟩ := hO.rd
              obtain ⟨n110, e110⟩ : ∃ q, q = List.length a := ⟨_, rfl⟩
              rw [← e110] at hcc110 ⊢
              replace r110 := hide r110
              replace e110 := hide e110
              clear hO
              refine mix_won rfl (wanted_is rfl rfl rfl rfl rfl) (fun K hK => ?_)
              go_simp
              refine (same_any g1 g1 A7 A110 n7 c7 n110 c110 a a _ (Q7.out.ext T) e7.out r110.out e110.out hl7b).mono ?_
              rintro e w22 ⟨rfl, hE⟩
              refine hK _ _ (T.trans (hE.mono T.size)) ?_
              clear hK K
              try simp only [Act.put, List.setIfInBounds_toArray, List.set_cons_zero, List.set_cons_succ]
              replace T := T.trans (hE.mono T.size)
              rw [sameG_self]
              clear hE
              iterate 2
                apply mix_q rfl rfl
                · intro W hW
                  have hcW := (bcell hW).1
                  go_simp
                  try exact rfl
                simp only [Act.put, List.setIfInBounds_toArray, List.set_cons_zero, List.set_cons_succ]
              refine mix_nil ?_
              go_wp2
              go_ret
              exact ⟨rfl, hB.out.trans ((TA.out.trans (T.mono TA.out.size)).mono hB.out.size)⟩
end Go.Proofs.Ytoihankkldafoaa
