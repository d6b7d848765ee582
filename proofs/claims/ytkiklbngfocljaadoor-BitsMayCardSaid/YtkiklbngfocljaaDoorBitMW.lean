/- BitsMay: the walk. -/
import Derived.Test.YtkiklbngfocljaaDoorBitM
import Derived.Test.YtkiklbngfocljaaDoorBitW
import Derived.Test.YtkiklbngfocljaaDoorFlt
import Derived.Test.YtkiklbngfocljaaDoorOpenR
namespace Go.Proofs.YtkiklbngfocljaaDoor
open Go.RowKit

theorem RRow.ext {w w' : World} {A : Option Addr} {L : List RArg} (h : RRow w A L) (hE : Ext w w') : RRow w' A L := by
  refine ⟨?_, fun s hs => ⟨(h.2 s hs).1.ext hE, (h.2 s hs).2⟩⟩
  rcases h.1 with h0 | ⟨b, off, e, hb, hc⟩
  · exact .inl h0
  · exact .inr ⟨b, off, e, Nat.lt_of_lt_of_le hb hE.size, fun i s hi => ((bcell hE).1 b _ hb).trans (hc i s hi)⟩
set_option maxRecDepth 100000 in
set_option maxHeartbeats 8000000 in
theorem bitsMay_any (A1 A2 A3 : Option Addr) (n1 c1 n2 c2 n3 c3 : Nat) (xs ys : List Nat) (LL : List RArg) (w : World) (hn1 : n1 = xs.length) (hc1 : n1 ≤ c1) (h1 : Rd wE w.heap.size w A1 xs) (hfx : Fit xs)
    (hn2 : n2 = ys.length) (hc2 : n2 ≤ c2) (h2 : Rd wE w.heap.size w A2 ys) (hfy : Fit ys) (hn3 : n3 = LL.length) (hm3 : n3 ≤ maxLen) (h3 : RRow w A3 LL) (hL : LaidT w) :
    Calls Tryd.prog 4 #[.agg #[.slice A1 n1 c1], .agg #[.slice A2 n2 c2], .slice A3 n3 c3] w fun e w' => e = .returned (.bool true) ∧ Ext w w' := by
  replace h1 := hide h1
  replace hn1 := hide hn1
  replace h2 := hide h2
  replace hn2 := hide hn2
  replace h3 := hide h3
  replace hn3 := hide hn3
  replace hL := hide hL
  go_enter Tryd.func4, Tryd.ntmps4
  go_upto_region 1 with fail
  obtain ⟨w0, hw0⟩ : ∃ w0, w0 = (w.alloc (.cells #[.slice A1 n1 c1] 24)).alloc (.cells #[.slice A2 n2 c2] 24) := ⟨_, rfl⟩
  rw [← hw0]
  have hE0 : Ext w w0 := by rw [hw0]; exact ((Below.refl _ _).alloc (Nat.le_refl _) _).alloc (by simp) _
  have X3 : Hid (Box w0 w.heap.size 24 (.slice A1 n1 c1)) := hide (by rw [hw0]; exact (Box.new w _ _).alloc _)
  have X4 : Hid (Box w0 (w.heap.size + 1) 24 (.slice A2 n2 c2)) := hide (by
    rw [hw0]
    have := Box.new (w.alloc (.cells #[.slice A1 n1 c1] 24)) 24 (.slice A2 n2 c2)
    rw [World.size_alloc] at this
    exact this)
  clear hw0
  obtain ⟨p3, hp3⟩ : ∃ b, b = w.heap.size := ⟨_, rfl⟩
  rw [← hp3] at X3 X4 ⊢
  obtain ⟨p4, hp4⟩ : ∃ b, b = p3 + 1 := ⟨_, rfl⟩
  rw [← hp4] at X4 ⊢
  clear hp3 hp4
  go_wp2_with fail
  refine (wakes_any _ (hL.out.ext hE0)).mono ?_
  rintro e w1 ⟨rfl, hE1⟩
  have hB1 := hide (hE0.trans (hE1.mono hE0.size))
  replace X3 := hide (X3.out.ext hE1)
  replace X4 := hide (X4.out.ext hE1)
  replace h1 := hide (h1.out.ext hB1.out)
  replace h2 := hide (h2.out.ext hB1.out)
  replace h3 := hide (h3.out.ext hB1.out)
  replace hL := hide (hL.out.ext hB1.out)
  clear hE0 hE1
  have hc3' := X3.out.cell
  have hs3' := X3.out.lt
  have hc4' := X4.out.cell
  have hs4' := X4.out.lt
  go_upto_region 3 with fail
  refine wp_region_flt [(some 7, 4), (some 8, 5)] (fun _ => .cells #[.slice none 0 0] 24) [(0, true), (2, true), (1, false), (3, false)] [(6, false), (7, false)] (fun _ => undef) (by kernel_rfl) (by kernel_rfl) (by kernel_rfl) (by kernel_rfl) (by kernel_rfl) (fun _ _ d _ _ h => by cases d <;> exact h) ?_ rfl ?_
  · refine floats_of (by kernel_rfl) ?_ (by decide) (by decide) (by decide)
    intro p hp
    simp only [List.mem_cons, List.not_mem_nil, or_false] at hp
    rcases hp with rfl | rfl
    all_goals
      intro K a w h
      refine flt_lay rfl rfl ?_
      go_simp
      exact h
  obtain ⟨wd, hwd⟩ : ∃ x, x = w1.drew := ⟨_, rfl⟩
  rw [← hwd]
  have hEd : Ext w1 wd := by rw [hwd]; exact (Below.refl _ _).drew
  clear hwd
  clear hc3' hs3' hc4' hs4'
  have hc3' := (X3.out.ext hEd).cell
  have hs3' := (X3.out.ext hEd).lt
  have hc4' := (X4.out.ext hEd).cell
  have hs4' := (X4.out.ext hEd).lt
  have hEd1 := hide hEd
  have q1 := hide (h1.out.ext hEd)
  have q2 := hide (h2.out.ext hEd)
  clear hEd
  have T : Ext wd wd := Below.refl _ _
  iterate 2
    apply flt_q rfl rfl
    · intro x W hW
      have hcW : ∀ (b o : Nat), b < (World.heap wd).size → W.cell? ⟨b, o, none⟩ = World.cell? wd ⟨b, o, none⟩ := (bcell hW).1
      simp only [puts, Act.put, List.setIfInBounds_toArray, List.set_cons_zero, List.set_cons_succ]
      go_simp
      try exact rfl
    simp only [Act.put, List.setIfInBounds_toArray, List.set_cons_zero, List.set_cons_succ]
  have hfa : Fit (xs.take 160) := fun x hx => hfx x (List.mem_of_mem_take hx)
  have hfb : Fit (ys.take 160) := fun x hx => hfy x (List.mem_of_mem_take hx)
  have hla : (xs.take 160).length ≤ 160 := by rw [List.length_take]; omega
  have hlb : (ys.take 160).length ≤ 160 := by rw [List.length_take]; omega
  obtain ⟨a, ha⟩ : ∃ a, a = xs.take 160 := ⟨_, rfl⟩
  obtain ⟨b, hb⟩ : ∃ b, b = ys.take 160 := ⟨_, rfl⟩
  rw [← ha] at hfa hla
  rw [← hb] at hfb hlb
  refine flt_w rfl rfl fun W x hE K hK => ?_
  simp only [puts, Act.put, List.setIfInBounds_toArray, List.set_cons_zero, List.set_cons_succ]
  go_simp
  replace T := T.trans (hE.mono T.size)
  refine (own_any A1 n1 c1 xs _ (q1.out.ext T) hn1.out hc1).mono ?_
  rintro e w2 ⟨v, rfl, hO, hE2⟩
  refine hK _ _ hE2 (by simp only [puts, Act.put, List.setIfInBounds_toArray, List.set_cons_zero, List.set_cons_succ]) ?_
  clear hK K
  replace T := T.trans (hE2.mono T.size)
  try simp only [Act.put, List.setIfInBounds_toArray, List.set_cons_zero, List.set_cons_succ]
  rw [← ha] at hO
  obtain ⟨A7, c7, rfl, -, hc7, -⟩ := hO.rd
  obtain ⟨n7, e7⟩ : ∃ m, m = (List.length a) := ⟨_, rfl⟩
  rw [← e7] at hc7 ⊢
  have r7 := hO.base_le (Nat.zero_le _)
  rw [← e7] at r7
  replace r7 := hide r7
  replace e7 := hide e7
  clear hO hE hE2
  refine flt_w rfl rfl fun W x hE K hK => ?_
  simp only [puts, Act.put, List.setIfInBounds_toArray, List.set_cons_zero, List.set_cons_succ]
  go_simp
  replace T := T.trans (hE.mono T.size)
  refine (own_any A2 n2 c2 ys _ (q2.out.ext T) hn2.out hc2).mono ?_
  rintro e w3 ⟨v, rfl, hO, hE2⟩
  refine hK _ _ hE2 (by simp only [puts, Act.put, List.setIfInBounds_toArray, List.set_cons_zero, List.set_cons_succ]) ?_
  clear hK K
  replace T := T.trans (hE2.mono T.size)
  try simp only [Act.put, List.setIfInBounds_toArray, List.set_cons_zero, List.set_cons_succ]
  rw [← hb] at hO
  replace r7 := hide ((r7.out.ext hE).ext hE2)
  obtain ⟨A8, c8, rfl, -, hc8, -⟩ := hO.rd
  obtain ⟨n8, e8⟩ : ∃ m, m = (List.length b) := ⟨_, rfl⟩
  rw [← e8] at hc8 ⊢
  have r8 := hO.base_le (Nat.zero_le _)
  rw [← e8] at r8
  replace r8 := hide r8
  replace e8 := hide e8
  clear hO hE hE2 q1 q2
  replace ha := hide ha
  replace hb := hide hb
  refine flt_end fun W x hE hA => ?_
  simp only [puts, Act.put, List.setIfInBounds_toArray, List.set_cons_zero, List.set_cons_succ]
  obtain ⟨p7, z7, X7, l7⟩ := hA.1 4 (by simp)
  obtain ⟨p8, z8, X8, l8⟩ := hA.1 5 (by simp)
  have d78 : p7 ≠ p8 := fun h => hA.2 4 (by simp) 5 (by simp) (by decide) (by rw [z7, z8, h])
  rw [z7, z8]
  replace X7 : Hid (Box W p7 24 (.slice none 0 0)) := hide X7
  replace r7 := hide (r7.out.ext hE)
  replace l7 : wd.heap.size ≤ p7 := l7
  replace X8 : Hid (Box W p8 24 (.slice none 0 0)) := hide X8
  replace r8 := hide (r8.out.ext hE)
  replace l8 : wd.heap.size ≤ p8 := l8
  replace T := T.trans (hE.mono T.size)
  clear hA hE z7 z8
  have hcb := X7.out.cell
  have hfb := X7.out.free
  have hsb := X7.out.lt
  refine mix_w rfl rfl (fun K hK => ?_)
  go_simp
  refine hK _ _ ?_ ?_
  · exact T.setCell (p := ⟨p7, 0, none⟩) l7 _
  clear hK K
  try simp only [Act.put, List.setIfInBounds_toArray, List.set_cons_zero, List.set_cons_succ]
  obtain ⟨w4, hN⟩ : ∃ x, x = World.setCell W ⟨p7, 0, none⟩ (.slice A7 n7 c7) := ⟨_, rfl⟩
  rw [← hN]
  replace T : Ext wd w4 := by rw [hN]; exact T.setCell (p := ⟨p7, 0, none⟩) l7 _
  replace r7 := hide (by rw [hN]; exact r7.out.set X7.out (by decide) _ : Own wE 43 0 w4 (.slice A7 n7 c7) a)
  replace r8 := hide (by rw [hN]; exact r8.out.set X7.out (by decide) _ : Own wE 43 0 w4 (.slice A8 n8 c8) b)
  replace X7 : Hid (Box w4 p7 24 (.slice A7 n7 c7)) := hide (by rw [hN]; exact X7.out.set _)
  replace X8 := hide (by rw [hN]; exact X8.out.far (p := ⟨p7, 0, none⟩) (Ne.symm d78) _ : Box w4 p8 24 (.slice none 0 0))
  clear hN hcb hfb hsb
  have hcb := X8.out.cell
  have hfb := X8.out.free
  have hsb := X8.out.lt
  refine mix_w rfl rfl (fun K hK => ?_)
  go_simp
  refine hK _ _ ?_ ?_
  · exact T.setCell (p := ⟨p8, 0, none⟩) l8 _
  clear hK K
  try simp only [Act.put, List.setIfInBounds_toArray, List.set_cons_zero, List.set_cons_succ]
  obtain ⟨w5, hN⟩ : ∃ x, x = World.setCell w4 ⟨p8, 0, none⟩ (.slice A8 n8 c8) := ⟨_, rfl⟩
  rw [← hN]
  replace T : Ext wd w5 := by rw [hN]; exact T.setCell (p := ⟨p8, 0, none⟩) l8 _
  replace r7 := hide (by rw [hN]; exact r7.out.set X8.out (by decide) _ : Own wE 43 0 w5 (.slice A7 n7 c7) a)
  replace r8 := hide (by rw [hN]; exact r8.out.set X8.out (by decide) _ : Own wE 43 0 w5 (.slice A8 n8 c8) b)
  replace X8 : Hid (Box w5 p8 24 (.slice A8 n8 c8)) := hide (by rw [hN]; exact X8.out.set _)
  replace X7 := hide (by rw [hN]; exact X7.out.far (p := ⟨p8, 0, none⟩) d78 _ : Box w5 p7 24 (.slice A7 n7 c7))
  clear hN hcb hfb hsb
  refine mix_nil ?_
  have T1 : Hid (Ext w1 w5) := hide (hEd1.out.trans (T.mono hEd1.out.size))
  clear T hEd1 hfx hfy l7 l8 d78 hc3' hs3' hc4' hs4'
  go_upto_region 4 with fail
  have T : Ext w5 w5.drew := (Below.refl _ _).drew
  have hc7' := X7.out.cell
  have hs7' := X7.out.lt
  have hc8' := X8.out.cell
  have hs8' := X8.out.lt
  refine wp_region_mix (fun W => Below w5.heap.size w5 W) [(0, true), (2, true), (1, false), (3, false), (4, true), (5, true)] (by kernel_rfl) (by kernel_rfl) (by kernel_rfl) (by kernel_rfl) (fun _ _ d _ _ h => by cases d <;> exact h) ?_ ?_
  · exact T
  obtain ⟨wi, hwh⟩ : ∃ x, x = w5.drew := ⟨_, rfl⟩
  rw [← hwh] at T ⊢
  clear hwh
  iterate 2
    apply mix_q rfl rfl
    · intro W hW
      have hcW := (bcell hW).1
      go_simp
      try exact rfl
    simp only [Act.put, List.setIfInBounds_toArray, List.set_cons_zero, List.set_cons_succ]
  refine mix_w rfl rfl (fun K hK => ?_)
  go_simp
  refine (refList_any A7 n7 c7 a _ (rdO (r7.out.ext T)) e7.out (by have := e7.out; omega) hfa).mono ?_
  rintro e w6 ⟨v, rfl, hO, hE⟩
  refine hK _ _ (T.trans (hE.mono T.size)) ?_
  clear hK K
  try simp only [Act.put, List.setIfInBounds_toArray, List.set_cons_zero, List.set_cons_succ]
  replace T := T.trans (hE.mono T.size)
  replace hO : Own intE 3 _ w6 v (numL a) := hO
  obtain ⟨A27, c27, rfl, -, hc27, -⟩ := hO.rd
  obtain ⟨n27, e27⟩ : ∃ m, m = (List.length (numL a)) := ⟨_, rfl⟩
  rw [← e27] at hc27 ⊢
  have r27 := hO.base_le (Nat.zero_le _)
  rw [← e27] at r27
  replace r27 := hide r27
  replace e27 := hide e27
  have hn27 : (numL a).length ≤ 10240 := numL_len hla
  clear hO hE
  refine mix_w rfl rfl (fun K hK => ?_)
  go_simp
  refine (refList_any A8 n8 c8 b _ (rdO (r8.out.ext T)) e8.out (by have := e8.out; omega) hfb).mono ?_
  rintro e w7 ⟨v, rfl, hO, hE⟩
  refine hK _ _ (T.trans (hE.mono T.size)) ?_
  clear hK K
  try simp only [Act.put, List.setIfInBounds_toArray, List.set_cons_zero, List.set_cons_succ]
  replace T := T.trans (hE.mono T.size)
  replace hO : Own intE 3 _ w7 v (numL b) := hO
  replace r27 := hide (r27.out.ext hE)
  obtain ⟨A28, c28, rfl, -, hc28, -⟩ := hO.rd
  obtain ⟨n28, e28⟩ : ∃ m, m = (List.length (numL b)) := ⟨_, rfl⟩
  rw [← e28] at hc28 ⊢
  have r28 := hO.base_le (Nat.zero_le _)
  rw [← e28] at r28
  replace r28 := hide r28
  replace e28 := hide e28
  have hn28 : (numL b).length ≤ 10240 := numL_len hlb
  clear hO hE
  iterate 2
    apply mix_q rfl rfl
    · intro W hW
      have hcW := (bcell hW).1
      go_simp
      try exact rfl
    simp only [Act.put, List.setIfInBounds_toArray, List.set_cons_zero, List.set_cons_succ]
  refine mix_nil ?_
  rw [← e27.out] at hn27
  rw [← e28.out] at hn28
  replace T1 := hide (T1.out.trans (T.mono T1.out.size))
  replace X7 := hide (X7.out.ext T)
  replace r7 := hide (r7.out.ext T)
  replace X8 := hide (X8.out.ext T)
  replace r8 := hide (r8.out.ext T)
  clear T hc7' hs7' hc8' hs8'
  have hc7' := X7.out.cell
  have hs7' := X7.out.lt
  go_wp2_with fail
  refine (check_any A7 n7 c7 a _ (rdO r7.out) e7.out (by have := e7.out; omega) hfa).mono ?_
  rintro e w8 ⟨rfl, hE⟩
  replace T1 := hide (T1.out.trans (hE.mono T1.out.size))
  replace X7 := hide (X7.out.ext hE)
  replace X8 := hide (X8.out.ext hE)
  replace r7 := hide (r7.out.ext hE)
  replace r8 := hide (r8.out.ext hE)
  replace r27 := hide (r27.out.ext hE)
  replace r28 := hide (r28.out.ext hE)
  clear hE hc7' hs7'
  obtain ⟨z, hz⟩ : ∃ z, z = chkW a := ⟨_, rfl⟩
  rw [← hz]
  have hzz : z = 0 ∨ z = 140 := by rw [hz]; exact chkW_or a
  replace hz := hide hz
  replace hzz := hide hzz
  have hsn := hide (same_num hfa hfb)
  obtain ⟨ds, hds⟩ : ∃ x, x = decide (numL a = numL b) := ⟨_, rfl⟩
  rw [← hds] at hsn
  replace hds := hide hds
  go_upto_region 6 with fail
  go_cut [66] from 31 to 65 (fun s66 wx => s66 = .bool false ∧ Ext w8 wx)
  case first =>
    rcases hzz.out with h0 | h0
    · obtain rfl := h0
      clear hzz
      have hc7' := X7.out.cell
      have hs7' := X7.out.lt
      have hc8' := X8.out.cell
      have hs8' := X8.out.lt
      go_wp2_with fail
      refine (refRight_any A7 n7 c7 a _ (rdO r7.out) e7.out (by have := e7.out; omega) hfa).mono ?_
      rintro e w9 ⟨rfl, T⟩
      rw [show decide (chkW a = 0) = true from decide_eq_true hz.out.symm]
      clear hc7' hs7' hc8' hs8'
      have hc7' := (X7.out.ext T).cell
      have hs7' := (X7.out.ext T).lt
      have hc8' := (X8.out.ext T).cell
      have hs8' := (X8.out.ext T).lt
      go_wp2_with fail
      refine (same_any A7 A8 n7 c7 n8 c8 a b _ (rdO (r7.out.ext T)) e7.out (by have := e7.out; omega) hfa (rdO (r8.out.ext T)) e8.out (by have := e8.out; omega) hfb).mono ?_
      rintro e w10 ⟨rfl, hE⟩
      rw [hsn.out]
      replace T := T.trans (hE.mono T.size)
      clear hc7' hs7' hc8' hs8'
      have hc7' := (X7.out.ext T).cell
      have hs7' := (X7.out.ext T).lt
      have hc8' := (X8.out.ext T).cell
      have hs8' := (X8.out.ext T).lt
      go_wp2_with fail
      refine (equalI_any A27 A28 n27 c27 n28 c28 (numL a) (numL b) _ (rdO (r27.out.ext T)) (rdO (r28.out.ext T)) e27.out e28.out (by omega)).mono ?_
      rintro e w11 ⟨rfl, hE⟩
      rw [← hds.out]
      replace T := T.trans (hE.mono T.size)
      clear hc7' hs7' hc8' hs8'
      have hc7' := (X7.out.ext T).cell
      have hs7' := (X7.out.ext T).lt
      have hc8' := (X8.out.ext T).cell
      have hs8' := (X8.out.ext T).lt
      go_wp2_with fail
      refine (list_any A7 n7 c7 a _ (rdO (r7.out.ext T)) e7.out (by have := e7.out; omega) hfa (hL.out.ext (T1.out.trans (T.mono T1.out.size)))).mono ?_
      rintro e w12 ⟨v, rfl, hO, hE⟩
      replace hO : Own intE 3 _ w12 v (numL a) := hO
      replace T := T.trans (hE.mono T.size)
      obtain ⟨A30, c30, rfl, -, hc30, -⟩ := hO.rd
      obtain ⟨n30, e30⟩ : ∃ m, m = (List.length (numL a)) := ⟨_, rfl⟩
      rw [← e30] at hc30 ⊢
      have r30 := hO.base_le (Nat.zero_le _)
      rw [← e30] at r30
      replace r30 := hide r30
      replace e30 := hide e30
      clear hO hE
      clear hc7' hs7' hc8' hs8'
      have hc7' := (X7.out.ext T).cell
      have hs7' := (X7.out.ext T).lt
      have hc8' := (X8.out.ext T).cell
      have hs8' := (X8.out.ext T).lt
      go_wp2_with fail
      refine (equalI_any A30 A27 n30 c30 n27 c27 (numL a) (numL a) _ (rdO r30.out) (rdO (r27.out.ext T)) e30.out e27.out (by have := e30.out; have := e27.out; omega)).mono ?_
      rintro e w13 ⟨rfl, hE⟩
      replace T := T.trans (hE.mono T.size)
      clear hc7' hs7' hc8' hs8'
      have hc7' := (X7.out.ext T).cell
      have hs7' := (X7.out.ext T).lt
      have hc8' := (X8.out.ext T).cell
      have hs8' := (X8.out.ext T).lt
      go_wp2_with fail
      refine (count_any A7 n7 c7 a _ (rdO (r7.out.ext T)) e7.out (by have := e7.out; omega) hfa).mono ?_
      rintro e w14 ⟨rfl, hE⟩
      rw [num_len, ← e27.out]
      replace T := T.trans (hE.mono T.size)
      clear hc7' hs7' hc8' hs8'
      go_wp2
      go_meet
      case rel => exact ⟨rfl, T⟩
    · obtain rfl := h0
      clear hzz
      have hc7' := X7.out.cell
      have hs7' := X7.out.lt
      have hc8' := X8.out.cell
      have hs8' := X8.out.lt
      go_wp2_with fail
      refine (refRight_any A7 n7 c7 a _ (rdO r7.out) e7.out (by have := e7.out; omega) hfa).mono ?_
      rintro e w9 ⟨rfl, T⟩
      rw [show decide (chkW a = 0) = false from decide_eq_false (by rw [← hz.out]; decide)]
      clear hc7' hs7' hc8' hs8'
      have hc7' := (X7.out.ext T).cell
      have hs7' := (X7.out.ext T).lt
      have hc8' := (X8.out.ext T).cell
      have hs8' := (X8.out.ext T).lt
      go_wp2_with fail
      refine (same_any A7 A8 n7 c7 n8 c8 a b _ (rdO (r7.out.ext T)) e7.out (by have := e7.out; omega) hfa (rdO (r8.out.ext T)) e8.out (by have := e8.out; omega) hfb).mono ?_
      rintro e w10 ⟨rfl, hE⟩
      rw [hsn.out]
      replace T := T.trans (hE.mono T.size)
      clear hc7' hs7' hc8' hs8'
      have hc7' := (X7.out.ext T).cell
      have hs7' := (X7.out.ext T).lt
      have hc8' := (X8.out.ext T).cell
      have hs8' := (X8.out.ext T).lt
      go_wp2_with fail
      refine (equalI_any A27 A28 n27 c27 n28 c28 (numL a) (numL b) _ (rdO (r27.out.ext T)) (rdO (r28.out.ext T)) e27.out e28.out (by omega)).mono ?_
      rintro e w11 ⟨rfl, hE⟩
      rw [← hds.out]
      replace T := T.trans (hE.mono T.size)
      clear hc7' hs7' hc8' hs8'
      have hc7' := (X7.out.ext T).cell
      have hs7' := (X7.out.ext T).lt
      have hc8' := (X8.out.ext T).cell
      have hs8' := (X8.out.ext T).lt
      go_wp2_with fail
      refine (list_any A7 n7 c7 a _ (rdO (r7.out.ext T)) e7.out (by have := e7.out; omega) hfa (hL.out.ext (T1.out.trans (T.mono T1.out.size)))).mono ?_
      rintro e w12 ⟨v, rfl, hO, hE⟩
      replace hO : Own intE 3 _ w12 v (numL a) := hO
      replace T := T.trans (hE.mono T.size)
      obtain ⟨A30, c30, rfl, -, hc30, -⟩ := hO.rd
      obtain ⟨n30, e30⟩ : ∃ m, m = (List.length (numL a)) := ⟨_, rfl⟩
      rw [← e30] at hc30 ⊢
      have r30 := hO.base_le (Nat.zero_le _)
      rw [← e30] at r30
      replace r30 := hide r30
      replace e30 := hide e30
      clear hO hE
      clear hc7' hs7' hc8' hs8'
      have hc7' := (X7.out.ext T).cell
      have hs7' := (X7.out.ext T).lt
      have hc8' := (X8.out.ext T).cell
      have hs8' := (X8.out.ext T).lt
      go_wp2_with fail
      refine (equalI_any A30 A27 n30 c30 n27 c27 (numL a) (numL a) _ (rdO r30.out) (rdO (r27.out.ext T)) e30.out e27.out (by have := e30.out; have := e27.out; omega)).mono ?_
      rintro e w13 ⟨rfl, hE⟩
      replace T := T.trans (hE.mono T.size)
      clear hc7' hs7' hc8' hs8'
      have hc7' := (X7.out.ext T).cell
      have hs7' := (X7.out.ext T).lt
      have hc8' := (X8.out.ext T).cell
      have hs8' := (X8.out.ext T).lt
      go_wp2_with fail
      refine (count_any A7 n7 c7 a _ (rdO (r7.out.ext T)) e7.out (by have := e7.out; omega) hfa).mono ?_
      rintro e w14 ⟨rfl, hE⟩
      rw [num_len, ← e27.out]
      replace T := T.trans (hE.mono T.size)
      clear hc7' hs7' hc8' hs8'
      go_wp2
      go_meet
      case rel => exact ⟨rfl, T⟩
  case rest =>
    obtain ⟨rfl, T⟩ := hcut
    clear hsn hds hz hzz r27 r28 e27 e28 hn27 hn28
    have h38 := hide (h3.out.ext (T1.out.trans (T.mono T1.out.size)))
    replace h3 := hide (h3.out.ext T1.out)
    clear h38
    go_upto_block 0 with fail
    go_wp2
    go_loopw [69] (fun i wr => ∃ k : Nat, k ≤ n3 ∧ k ≤ 6 ∧ i = .int .i64 k ∧ Ext w8 wr) (fun i _ => n3 - (intOf i).toNat)
    case atStart => exact ⟨0, Nat.zero_le _, Nat.zero_le _, rfl, T⟩
    case round =>
      clear T
      obtain ⟨k, hk, hk6, rfl, T⟩ := hrel
      by_cases hlt : k < n3
      · have hlt' : (k : Int) < (n3 : Int) := by omega
        obtain ⟨⟨⟨Ar, nr, cr⟩, vs⟩, hs⟩ := get_some (xs := LL) (i := k) (by rw [← hn3.out]; exact hlt)
        obtain ⟨hR, hnr, hcr, hmr⟩ := (h3.out.ext T).2 _ (List.mem_of_getElem? hs)
        obtain ⟨bk, off, rfl, hbk, hcells⟩ : ∃ b off, A3 = some ⟨b, off, none⟩ ∧ b < wr.heap.size ∧ ∀ i s, LL[i]? = some s → wr.cell? ⟨b, off + i, none⟩ = some (.slice s.1.1 s.1.2.1 s.1.2.2) := by
          rcases (h3.out.ext T).1 with h0 | h0
          · rw [h0] at hs; cases hs
          · exact h0
        have hpc : wr.cell? ⟨bk, off + k, none⟩ = some (.slice Ar nr cr) := hcells k _ hs
        replace hnr : Hid (nr = vs.length) := hide hnr
        replace hcr : nr ≤ cr := hcr
        replace hmr : cr ≤ maxLen := hmr
        replace hR := hide hR
        replace hs := hide hs
        clear hcells
        by_cases h6 : k = 6
        · subst h6
          have Q1 := hide (h1.out.ext (T1.out.trans (T.mono T1.out.size)))
          have Q2 := hide (h2.out.ext (T1.out.trans (T.mono T1.out.size)))
          have T0 := hide (T1.out.trans (T.mono T1.out.size))
          have Y3 := hide (X3.out.ext T0.out)
          have Y4 := hide (X4.out.ext T0.out)
          have Y7 := hide (X7.out.ext T)
          have R7 := hide (r7.out.ext T)
          have Y8 := hide (X8.out.ext T)
          have R8 := hide (r8.out.ext T)
          have hc3' := Y3.out.cell
          have hs3' := Y3.out.lt
          have hc4' := Y4.out.cell
          have hs4' := Y4.out.lt
          have hc7' := Y7.out.cell
          have hs7' := Y7.out.lt
          have hc8' := Y8.out.cell
          have hs8' := Y8.out.lt
          clear T
          go_upto_region 21 with fail
          have T : Ext wr wr.drew := (Below.refl _ _).drew
          refine wp_region_mix (fun W => Below wr.heap.size wr W) [(0, true), (1, true), (2, false), (3, false), (4, true), (5, true), (6, true), (7, false), (8, false), (9, true), (10, true)] (by kernel_rfl) (by kernel_rfl) (by kernel_rfl) (by kernel_rfl) (fun _ _ d _ _ h => by cases d <;> exact h) ?_ ?_
          · exact T
          obtain ⟨wl, hwh⟩ : ∃ x, x = wr.drew := ⟨_, rfl⟩
          rw [← hwh] at T ⊢
          clear hwh
          iterate 2
            apply mix_q rfl rfl
            · intro W hW
              have hcW := (bcell hW).1
              go_simp
              try exact rfl
            simp only [Act.put, List.setIfInBounds_toArray, List.set_cons_zero, List.set_cons_succ]
          refine mix_w rfl rfl (fun K hK => ?_)
          go_simp
          refine (own_any A1 n1 c1 xs _ (Q1.out.ext T) hn1.out hc1).mono ?_
          rintro e w40 ⟨v, rfl, hO, hE⟩
          refine hK _ _ (T.trans (hE.mono T.size)) ?_
          clear hK K
          try simp only [Act.put, List.setIfInBounds_toArray, List.set_cons_zero, List.set_cons_succ]
          replace T := T.trans (hE.mono T.size)
          rw [← ha.out] at hO
          obtain ⟨A33, c33, rfl, -, hc33, -⟩ := hO.rd
          obtain ⟨n33, e33⟩ : ∃ m, m = (List.length a) := ⟨_, rfl⟩
          rw [← e33] at hc33 ⊢
          have r33 := hO.base_le (Nat.zero_le _)
          rw [← e33] at r33
          replace r33 := hide r33
          replace e33 := hide e33
          clear hO hE
          refine mix_w rfl rfl (fun K hK => ?_)
          go_simp
          refine (refSame_any A7 A33 n7 c7 n33 c33 a a _ (rdO (R7.out.ext T)) e7.out (by have := e7.out; omega) (rdO r33.out) e33.out).mono ?_
          rintro e w41 ⟨rfl, hE⟩
          refine hK _ _ (T.trans (hE.mono T.size)) ?_
          clear hK K
          try simp only [Act.put, List.setIfInBounds_toArray, List.set_cons_zero, List.set_cons_succ]
          replace T := T.trans (hE.mono T.size)
          clear hE r33 e33 hc33
          iterate 1
            apply mix_q rfl rfl
            · intro W hW
              have hcW := (bcell hW).1
              go_simp
              try exact rfl
            simp only [Act.put, List.setIfInBounds_toArray, List.set_cons_zero, List.set_cons_succ]
          iterate 2
            apply mix_on rfl (wanted_is rfl rfl rfl rfl rfl)
            · intro W hW
              have hcW := (bcell hW).1
              go_simp
              try exact rfl
            simp only [Act.put, List.setIfInBounds_toArray, List.set_cons_zero, List.set_cons_succ]
          refine mix_won rfl (wanted_is rfl rfl rfl rfl rfl) (fun K hK => ?_)
          go_simp
          refine (own_any A2 n2 c2 ys _ (Q2.out.ext T) hn2.out hc2).mono ?_
          rintro e w42 ⟨v, rfl, hO, hE⟩
          refine hK _ _ (T.trans (hE.mono T.size)) ?_
          clear hK K
          try simp only [Act.put, List.setIfInBounds_toArray, List.set_cons_zero, List.set_cons_succ]
          replace T := T.trans (hE.mono T.size)
          rw [← hb.out] at hO
          obtain ⟨A33, c33, rfl, -, hc33, -⟩ := hO.rd
          obtain ⟨n33, e33⟩ : ∃ m, m = (List.length b) := ⟨_, rfl⟩
          rw [← e33] at hc33 ⊢
          have r33 := hO.base_le (Nat.zero_le _)
          rw [← e33] at r33
          replace r33 := hide r33
          replace e33 := hide e33
          clear hO hE
          refine mix_won rfl (wanted_is rfl rfl rfl rfl rfl) (fun K hK => ?_)
          go_simp
          refine (refSame_any A8 A33 n8 c8 n33 c33 b b _ (rdO (R8.out.ext T)) e8.out (by have := e8.out; omega) (rdO r33.out) e33.out).mono ?_
          rintro e w43 ⟨rfl, hE⟩
          refine hK _ _ (T.trans (hE.mono T.size)) ?_
          clear hK K
          try simp only [Act.put, List.setIfInBounds_toArray, List.set_cons_zero, List.set_cons_succ]
          replace T := T.trans (hE.mono T.size)
          clear hE r33 e33 hc33
          iterate 2
            apply mix_q rfl rfl
            · intro W hW
              have hcW := (bcell hW).1
              go_simp
              try exact rfl
            simp only [Act.put, List.setIfInBounds_toArray, List.set_cons_zero, List.set_cons_succ]
          refine mix_nil ?_
          go_wp2
          go_ret
          exact ⟨rfl, hB1.out.trans ((T0.out.trans (T.mono T0.out.size)).mono hB1.out.size)⟩
        · have h6' : ((k : Int) == 6) = false := by rw [beq_eq_false_iff_ne]; omega
          have h6'' : ¬ (k : Int) = 6 := by omega
          go_upto_region 12 with fail
          obtain ⟨q, hq⟩ : ∃ q, q = min nr 40 := ⟨_, rfl⟩
          have z1 : min (nr : Int) 40 = q := by omega
          have z2 : q ≤ nr := by omega
          have z3 : (q : Int) ≤ cr := by omega
          have z4 : q ≤ cr := by omega
          have z5 : q ≤ 40 := by omega
          have hlq : q = (vs.take q).length := by rw [List.length_take, ← hnr.out]; omega
          obtain ⟨l, hl⟩ : ∃ l, l = vs.take q := ⟨_, rfl⟩
          have hr := hide (hR.out.take q)
          rw [← hl] at hlq hr
          replace hq := hide hq
          replace hlq := hide hlq
          replace hl := hide hl
          clear hpc
          have hsz := hide T.size
          go_cut [13] from 76 to 81 (fun s13 wx => ∃ v, s13 = v ∧ Hid (Own intE 3 wr.heap.size wx v l) ∧ Ext wr wx)
          case first =>
            cases Ar with
            | none =>
              have hws : vs = [] := by
                rcases hR.out with h | ⟨_, _, h, _⟩
                · exact h
                · cases h
              have hn0 : nr = 0 := by rw [hnr.out, hws]; rfl
              subst hn0
              obtain rfl : q = 0 := by omega
              go_wp2_with fail
              refine (cloneI_any none 0 _ _ _ hr.out hlq.out (by omega)).mono ?_
              rintro e w15 ⟨v, rfl, hO, hE⟩
              replace hO := hide hO
              go_wp2
              go_meet
              case rel => exact ⟨v, rfl, hO, hE⟩
            | some ad =>
              go_wp2_with fail
              refine (cloneI_any (some ad) q _ _ _ hr.out hlq.out (by omega)).mono ?_
              rintro e w15 ⟨v, rfl, hO, hE⟩
              replace hO := hide hO
              go_wp2
              go_meet
              case rel => exact ⟨v, rfl, hO, hE⟩
          case rest =>
            obtain ⟨v, rfl, hO, hE⟩ := hcut
            replace T := T.trans (hE.mono T.size)
            clear hE
            replace hO := hO.out
            clear z1 z3 z4
            obtain ⟨A13, c13, rfl, -, hc13, -⟩ := hO.rd
            obtain ⟨n13, e13⟩ : ∃ m, m = (List.length l) := ⟨_, rfl⟩
            rw [← e13] at hc13 ⊢
            have r13 := hO.base_le (Nat.zero_le _)
            rw [← e13] at r13
            replace r13 := hide r13
            replace e13 := hide e13
            have hl13 : n13 ≤ 40 := by rw [e13.out, ← hlq.out]; exact z5
            clear hO
            go_wp2_with fail
            refine (cloneI_any A13 n13 c13 l _ (rdO r13.out) e13.out (by omega)).mono ?_
            rintro e w16 ⟨v, rfl, hO, hE⟩
            replace T := T.trans (hE.mono T.size)
            replace r13 := hide (r13.out.ext hE)
            obtain ⟨A14, c14, rfl, -, hc14, -⟩ := hO.rd
            obtain ⟨n14, e14⟩ : ∃ m, m = (List.length l) := ⟨_, rfl⟩
            rw [← e14] at hc14 ⊢
            have r14 := hO.base_le (Nat.zero_le _)
            rw [← e14] at r14
            replace r14 := hide r14
            replace e14 := hide e14
            clear hO hE
            cases hall : l.all mayB with
            | true =>
              go_wp2_with fail
              refine (ofI_any A13 n13 c13 l _ (rdO r13.out) e13.out (by omega)).mono ?_
              rintro e w17 ⟨v, rfl, hO, hE⟩
              replace T := T.trans (hE.mono T.size)
              replace r13 := hide (r13.out.ext hE)
              replace r14 := hide (r14.out.ext hE)
              rw [ofE_may hall]
              rw [ofS_may hall] at hO
              obtain ⟨A15, c15, rfl, -, hc15, -⟩ := hO.rd
              obtain ⟨n15, e15⟩ : ∃ m, m = (List.length (ofL l)) := ⟨_, rfl⟩
              rw [← e15] at hc15 ⊢
              have r15 := hO.base_le (Nat.zero_le _)
              rw [← e15] at r15
              replace r15 := hide r15
              replace e15 := hide e15
              clear hO hE
              replace hall := hide hall
              go_upto_region 16 with fail
              obtain ⟨w18, hw⟩ : ∃ x, x = (w17.alloc (.cells #[.slice A15 n15 c15] 24)).alloc (.cells #[.slice none 0 0] 24) := ⟨_, rfl⟩
              rw [← hw]
              have hE : Ext w17 w18 := by rw [hw]; exact ((Below.refl _ _).alloc (Nat.le_refl _) _).alloc (by simp) _
              have X15 : Hid (Box w18 w17.heap.size 24 (.slice A15 n15 c15)) := hide (by rw [hw]; exact (Box.new _ _ _).alloc _)
              have X17 : Hid (Box w18 (w17.heap.size + 1) 24 (.slice none 0 0)) := hide (by
                rw [hw]
                have := Box.new (w17.alloc (.cells #[.slice A15 n15 c15] 24)) 24 (.slice none 0 0)
                rw [World.size_alloc] at this
                exact this)
              clear hw
              obtain ⟨p15, hp15⟩ : ∃ x, x = w17.heap.size := ⟨_, rfl⟩
              rw [← hp15] at X15 X17 ⊢
              obtain ⟨p17, hp17⟩ : ∃ x, x = p15 + 1 := ⟨_, rfl⟩
              rw [← hp17] at X17 ⊢
              have hp8 : w8.heap.size ≤ p17 := by have := T.size; omega
              have dp : p15 ≠ p17 := by omega
              clear hp15 hp17
              replace T := T.trans (hE.mono T.size)
              replace r13 := hide (r13.out.ext hE)
              replace r14 := hide (r14.out.ext hE)
              replace r15 := hide (r15.out.ext hE)
              clear hE
              go_wp2_with fail
              refine (contains_any A13 n13 c13 l _ (rdO r13.out) e13.out (by omega)).mono ?_
              rintro e w19 ⟨rfl, hw⟩
              subst hw
              rw [hall.out]
              go_wp2_with fail
              refine (refOf_any A14 n14 c14 l _ (rdO r14.out) e14.out (by have := e14.out; have := e13.out; omega) (List.all_eq_true.1 hall.out)).mono ?_
              rintro e w20 ⟨v, rfl, hO, hE⟩
              replace T := T.trans (hE.mono T.size)
              replace r13 := hide (r13.out.ext hE)
              replace r14 := hide (r14.out.ext hE)
              replace r15 := hide (r15.out.ext hE)
              replace X15 := hide (X15.out.ext hE)
              replace X17 := hide (X17.out.ext hE)
              obtain ⟨A18, c18, rfl, -, hc18, -⟩ := hO.rd
              obtain ⟨n18, e18⟩ : ∃ m, m = (List.length (ofL l)) := ⟨_, rfl⟩
              rw [← e18] at hc18 ⊢
              have r18 := hO.base_le (Nat.zero_le _)
              rw [← e18] at r18
              replace r18 := hide r18
              replace e18 := hide e18
              clear hO hE
              have hcb := X17.out.cell
              have hfb := X17.out.free
              have hsb := X17.out.lt
              go_upto_region 18 with fail
              obtain ⟨w21, hN⟩ : ∃ x, x = w20.setCell ⟨p17, 0, none⟩ (.slice A18 n18 c18) := ⟨_, rfl⟩
              rw [← hN]
              replace T : Ext w8 w21 := by rw [hN]; exact T.setCell (p := ⟨p17, 0, none⟩) hp8 _
              replace X15 : Hid (Box w21 p15 24 (.slice A15 n15 c15)) := hide (by rw [hN]; exact X15.out.far (p := ⟨p17, 0, none⟩) dp _)
              replace r15 := hide (by rw [hN]; exact r15.out.set X17.out (by decide) _ : Own wE 43 0 w21 (.slice A15 n15 c15) (ofL l))
              replace r18 := hide (by rw [hN]; exact r18.out.set X17.out (by decide) _ : Own wE 43 0 w21 (.slice A18 n18 c18) (ofL l))
              replace r13 := hide (by rw [hN]; exact r13.out.set X17.out (by decide) _ : Own intE 3 0 w21 (.slice A13 n13 c13) l)
              replace r14 := hide (by rw [hN]; exact r14.out.set X17.out (by decide) _ : Own intE 3 0 w21 (.slice A14 n14 c14) l)
              replace X17 : Hid (Box w21 p17 24 (.slice A18 n18 c18)) := hide (by rw [hN]; exact X17.out.set _)
              clear hN hcb hfb hsb
              have hc15' := X15.out.cell
              have hs15' := X15.out.lt
              have hc17' := X17.out.cell
              have hs17' := X17.out.lt
              have h157 : n15 ≤ 1000000 := by rw [e15.out]; exact Nat.le_trans (ofL_ok l (List.all_eq_true.1 hall.out)).2 (by omega)
              go_wp2_with fail
              refine (refSame_any A15 A18 n15 c15 n18 c18 (ofL l) (ofL l) _ (rdO r15.out) e15.out h157 (rdO r18.out) e18.out).mono ?_
              rintro e w22 ⟨rfl, hE⟩
              replace T := T.trans (hE.mono T.size)
              clear hc15' hs15' hc17' hs17' X15 X17
              have r13 := hide (r13.out.ext hE)
              have r14 := hide (r14.out.ext hE)
              go_wp2_with fail
              refine (equalI_any A13 A14 n13 c13 n14 c14 l l _ (rdO r13.out) (rdO r14.out) e13.out e14.out (by omega)).mono ?_
              rintro e w23 ⟨rfl, hE⟩
              replace T := T.trans (hE.mono T.size)
              clear hE
              go_wp2
              refine ⟨?_, ?_⟩
              · first
                  | exact ⟨k + 1, by omega, by omega, by go_num, T⟩
                  | ((repeat apply Exists.intro); exact ⟨⟨k + 1, by omega, by omega, by go_num, T⟩, rfl⟩)
              · first | (simp [intOf, lenV]; omega) | (simp [intOf]; omega) | (simp [intOf]; done)
            | false =>
              go_wp2_with fail
              refine (ofI_any A13 n13 c13 l _ (rdO r13.out) e13.out (by omega)).mono ?_
              rintro e w17 ⟨v, rfl, hO, hE⟩
              replace T := T.trans (hE.mono T.size)
              replace r13 := hide (r13.out.ext hE)
              replace r14 := hide (r14.out.ext hE)
              rw [ofE_not hall]
              rw [ofS_not hall] at hO
              obtain ⟨A15, c15, rfl, -, hc15, -⟩ := hO.rd
              obtain ⟨n15, e15⟩ : ∃ m, m = (List.length []) := ⟨_, rfl⟩
              rw [← e15] at hc15 ⊢
              have r15 := hO.base_le (Nat.zero_le _)
              rw [← e15] at r15
              replace r15 := hide r15
              replace e15 := hide e15
              obtain rfl : n15 = 0 := e15.out
              clear hO hE
              replace hall := hide hall
              go_upto_region 16 with fail
              obtain ⟨w18, hw⟩ : ∃ x, x = (w17.alloc (.cells #[.slice A15 0 c15] 24)).alloc (.cells #[.slice none 0 0] 24) := ⟨_, rfl⟩
              rw [← hw]
              have hE : Ext w17 w18 := by rw [hw]; exact ((Below.refl _ _).alloc (Nat.le_refl _) _).alloc (by simp) _
              have X15 : Hid (Box w18 w17.heap.size 24 (.slice A15 0 c15)) := hide (by rw [hw]; exact (Box.new _ _ _).alloc _)
              have X17 : Hid (Box w18 (w17.heap.size + 1) 24 (.slice none 0 0)) := hide (by
                rw [hw]
                have := Box.new (w17.alloc (.cells #[.slice A15 0 c15] 24)) 24 (.slice none 0 0)
                rw [World.size_alloc] at this
                exact this)
              clear hw
              obtain ⟨p15, hp15⟩ : ∃ x, x = w17.heap.size := ⟨_, rfl⟩
              rw [← hp15] at X15 X17 ⊢
              obtain ⟨p17, hp17⟩ : ∃ x, x = p15 + 1 := ⟨_, rfl⟩
              rw [← hp17] at X17 ⊢
              have hp8 : w8.heap.size ≤ p17 := by have := T.size; omega
              have dp : p15 ≠ p17 := by omega
              clear hp15 hp17
              replace T := T.trans (hE.mono T.size)
              replace r13 := hide (r13.out.ext hE)
              replace r14 := hide (r14.out.ext hE)
              replace r15 := hide (r15.out.ext hE)
              clear hE
              go_wp2_with fail
              refine (contains_any A13 n13 c13 l _ (rdO r13.out) e13.out (by omega)).mono ?_
              rintro e w19 ⟨rfl, hw⟩
              subst hw
              rw [hall.out]
              have hc15' := X15.out.cell
              have hs15' := X15.out.lt
              have hc17' := X17.out.cell
              have hs17' := X17.out.lt
              go_wp2_with fail
              refine (refSame_any A15 none 0 c15 0 0 [] [] _ (rdO r15.out) rfl (by omega) (.inl rfl) rfl).mono ?_
              rintro e w22 ⟨rfl, hE⟩
              replace T := T.trans (hE.mono T.size)
              clear hc15' hs15' hc17' hs17' X15 X17
              have r13 := hide (r13.out.ext hE)
              have r14 := hide (r14.out.ext hE)
              go_wp2_with fail
              refine (equalI_any A13 A14 n13 c13 n14 c14 l l _ (rdO r13.out) (rdO r14.out) e13.out e14.out (by omega)).mono ?_
              rintro e w23 ⟨rfl, hE⟩
              replace T := T.trans (hE.mono T.size)
              clear hE
              go_wp2
              refine ⟨?_, ?_⟩
              · first
                  | exact ⟨k + 1, by omega, by omega, by go_num, T⟩
                  | ((repeat apply Exists.intro); exact ⟨⟨k + 1, by omega, by omega, by go_num, T⟩, rfl⟩)
              · first | (simp [intOf, lenV]; omega) | (simp [intOf]; omega) | (simp [intOf]; done)
      · have hlt' : ¬ (k : Int) < (n3 : Int) := by omega
        have Q1 := hide (h1.out.ext (T1.out.trans (T.mono T1.out.size)))
        have Q2 := hide (h2.out.ext (T1.out.trans (T.mono T1.out.size)))
        have T0 := hide (T1.out.trans (T.mono T1.out.size))
        have Y3 := hide (X3.out.ext T0.out)
        have Y4 := hide (X4.out.ext T0.out)
        have Y7 := hide (X7.out.ext T)
        have R7 := hide (r7.out.ext T)
        have Y8 := hide (X8.out.ext T)
        have R8 := hide (r8.out.ext T)
        have hc3' := Y3.out.cell
        have hs3' := Y3.out.lt
        have hc4' := Y4.out.cell
        have hs4' := Y4.out.lt
        have hc7' := Y7.out.cell
        have hs7' := Y7.out.lt
        have hc8' := Y8.out.cell
        have hs8' := Y8.out.lt
        clear T
        go_upto_region 21 with fail
        have T : Ext wr wr.drew := (Below.refl _ _).drew
        refine wp_region_mix (fun W => Below wr.heap.size wr W) [(0, true), (1, true), (2, false), (3, false), (4, true), (5, true), (6, true), (7, false), (8, false), (9, true), (10, true)] (by kernel_rfl) (by kernel_rfl) (by kernel_rfl) (by kernel_rfl) (fun _ _ d _ _ h => by cases d <;> exact h) ?_ ?_
        · exact T
        obtain ⟨wl, hwh⟩ : ∃ x, x = wr.drew := ⟨_, rfl⟩
        rw [← hwh] at T ⊢
        clear hwh
        iterate 2
          apply mix_q rfl rfl
          · intro W hW
            have hcW := (bcell hW).1
            go_simp
            try exact rfl
          simp only [Act.put, List.setIfInBounds_toArray, List.set_cons_zero, List.set_cons_succ]
        refine mix_w rfl rfl (fun K hK => ?_)
        go_simp
        refine (own_any A1 n1 c1 xs _ (Q1.out.ext T) hn1.out hc1).mono ?_
        rintro e w40 ⟨v, rfl, hO, hE⟩
        refine hK _ _ (T.trans (hE.mono T.size)) ?_
        clear hK K
        try simp only [Act.put, List.setIfInBounds_toArray, List.set_cons_zero, List.set_cons_succ]
        replace T := T.trans (hE.mono T.size)
        rw [← ha.out] at hO
        obtain ⟨A33, c33, rfl, -, hc33, -⟩ := hO.rd
        obtain ⟨n33, e33⟩ : ∃ m, m = (List.length a) := ⟨_, rfl⟩
        rw [← e33] at hc33 ⊢
        have r33 := hO.base_le (Nat.zero_le _)
        rw [← e33] at r33
        replace r33 := hide r33
        replace e33 := hide e33
        clear hO hE
        refine mix_w rfl rfl (fun K hK => ?_)
        go_simp
        refine (refSame_any A7 A33 n7 c7 n33 c33 a a _ (rdO (R7.out.ext T)) e7.out (by have := e7.out; omega) (rdO r33.out) e33.out).mono ?_
        rintro e w41 ⟨rfl, hE⟩
        refine hK _ _ (T.trans (hE.mono T.size)) ?_
        clear hK K
        try simp only [Act.put, List.setIfInBounds_toArray, List.set_cons_zero, List.set_cons_succ]
        replace T := T.trans (hE.mono T.size)
        clear hE r33 e33 hc33
        iterate 1
          apply mix_q rfl rfl
          · intro W hW
            have hcW := (bcell hW).1
            go_simp
            try exact rfl
          simp only [Act.put, List.setIfInBounds_toArray, List.set_cons_zero, List.set_cons_succ]
        iterate 2
          apply mix_on rfl (wanted_is rfl rfl rfl rfl rfl)
          · intro W hW
            have hcW := (bcell hW).1
            go_simp
            try exact rfl
          simp only [Act.put, List.setIfInBounds_toArray, List.set_cons_zero, List.set_cons_succ]
        refine mix_won rfl (wanted_is rfl rfl rfl rfl rfl) (fun K hK => ?_)
        go_simp
        refine (own_any A2 n2 c2 ys _ (Q2.out.ext T) hn2.out hc2).mono ?_
        rintro e w42 ⟨v, rfl, hO, hE⟩
        refine hK _ _ (T.trans (hE.mono T.size)) ?_
        clear hK K
        try simp only [Act.put, List.setIfInBounds_toArray, List.set_cons_zero, List.set_cons_succ]
        replace T := T.trans (hE.mono T.size)
        rw [← hb.out] at hO
        obtain ⟨A33, c33, rfl, -, hc33, -⟩ := hO.rd
        obtain ⟨n33, e33⟩ : ∃ m, m = (List.length b) := ⟨_, rfl⟩
        rw [← e33] at hc33 ⊢
        have r33 := hO.base_le (Nat.zero_le _)
        rw [← e33] at r33
        replace r33 := hide r33
        replace e33 := hide e33
        clear hO hE
        refine mix_won rfl (wanted_is rfl rfl rfl rfl rfl) (fun K hK => ?_)
        go_simp
        refine (refSame_any A8 A33 n8 c8 n33 c33 b b _ (rdO (R8.out.ext T)) e8.out (by have := e8.out; omega) (rdO r33.out) e33.out).mono ?_
        rintro e w43 ⟨rfl, hE⟩
        refine hK _ _ (T.trans (hE.mono T.size)) ?_
        clear hK K
        try simp only [Act.put, List.setIfInBounds_toArray, List.set_cons_zero, List.set_cons_succ]
        replace T := T.trans (hE.mono T.size)
        clear hE r33 e33 hc33
        iterate 2
          apply mix_q rfl rfl
          · intro W hW
            have hcW := (bcell hW).1
            go_simp
            try exact rfl
          simp only [Act.put, List.setIfInBounds_toArray, List.set_cons_zero, List.set_cons_succ]
        refine mix_nil ?_
        go_wp2
        go_ret
        exact ⟨rfl, hB1.out.trans ((T0.out.trans (T.mono T0.out.size)).mono hB1.out.size)⟩
end Go.Proofs.YtkiklbngfocljaaDoor
