/- BitsParts: the walk. -/
import Derived.Test.YtkiklbngfocljaaDoorBitXQ
import Derived.Test.YtkiklbngfocljaaDoorBitW
import Derived.Test.YtkiklbngfocljaaDoorFlt
namespace Go.Proofs.YtkiklbngfocljaaDoor
open Go.RowKit

theorem dec_nil {l : List Nat} {i : Decidable (l = [])} (h : l = []) : @decide (l = []) i = true := decide_eq_true h
set_option maxRecDepth 100000 in
set_option maxHeartbeats 8000000 in
theorem bitsParts_any (A1 A2 A3 : Option Addr) (n1 c1 n2 c2 n3 c3 : Nat) (xs ys zs : List Nat) (w : World) (hn1 : n1 = xs.length) (hc1 : n1 ≤ c1) (h1 : Rd wE w.heap.size w A1 xs) (hfx : Fit xs)
    (hn2 : n2 = ys.length) (hc2 : n2 ≤ c2) (h2 : Rd wE w.heap.size w A2 ys) (hfy : Fit ys) (hn3 : n3 = zs.length) (hc3 : n3 ≤ c3) (h3 : Rd wE w.heap.size w A3 zs) (hfz : Fit zs) (hL : LaidT w) :
    Calls Tryd.prog 8 #[.agg #[.slice A1 n1 c1], .agg #[.slice A2 n2 c2], .agg #[.slice A3 n3 c3]] w fun e w' => e = .returned (.bool true) ∧ Ext w w' := by
  replace h1 := hide h1
  replace hn1 := hide hn1
  replace h2 := hide h2
  replace hn2 := hide hn2
  replace h3 := hide h3
  replace hn3 := hide hn3
  replace hL := hide hL
  go_enter Tryd.func8, Tryd.ntmps8
  go_upto_region 1 with fail
  obtain ⟨w0, hw0⟩ : ∃ w0, w0 = ((w.alloc (.cells #[.slice A1 n1 c1] 24)).alloc (.cells #[.slice A2 n2 c2] 24)).alloc (.cells #[.slice A3 n3 c3] 24) := ⟨_, rfl⟩
  rw [← hw0]
  have hE0 : Ext w w0 := by rw [hw0]; exact (((Below.refl _ _).alloc (Nat.le_refl _) _).alloc (by simp) _).alloc (by simp; omega) _
  have x3 : Hid (Box w0 w.heap.size 24 (.slice A1 n1 c1)) := hide (by rw [hw0]; exact ((Box.new w _ _).alloc _).alloc _)
  have x4 : Hid (Box w0 (w.heap.size + 1) 24 (.slice A2 n2 c2)) := hide (by
    rw [hw0]
    have := Box.new (w.alloc (.cells #[.slice A1 n1 c1] 24)) 24 (.slice A2 n2 c2)
    rw [World.size_alloc] at this
    exact this.alloc _)
  have x5 : Hid (Box w0 (w.heap.size + 1 + 1) 24 (.slice A3 n3 c3)) := hide (by
    rw [hw0]
    have := Box.new ((w.alloc (.cells #[.slice A1 n1 c1] 24)).alloc (.cells #[.slice A2 n2 c2] 24)) 24 (.slice A3 n3 c3)
    rw [World.size_alloc, World.size_alloc] at this
    exact this)
  clear hw0
  obtain ⟨p3, hp3⟩ : ∃ b, b = w.heap.size := ⟨_, rfl⟩
  rw [← hp3] at x3 x4 x5 ⊢
  obtain ⟨p4, hp4⟩ : ∃ b, b = p3 + 1 := ⟨_, rfl⟩
  rw [← hp4] at x4 x5 ⊢
  obtain ⟨p5, hp5⟩ : ∃ b, b = p4 + 1 := ⟨_, rfl⟩
  rw [← hp5] at x5 ⊢
  clear hp3 hp4 hp5
  go_wp2_with fail
  refine (wakes_any _ (hL.out.ext hE0)).mono ?_
  rintro e w1 ⟨rfl, hE1⟩
  replace x3 := hide (x3.out.ext hE1)
  replace x4 := hide (x4.out.ext hE1)
  replace x5 := hide (x5.out.ext hE1)
  have hB := hide (hE0.trans (hE1.mono hE0.size))
  replace h1 := hide (h1.out.ext hB.out)
  replace h2 := hide (h2.out.ext hB.out)
  replace h3 := hide (h3.out.ext hB.out)
  replace hL := hide (hL.out.ext hB.out)
  clear hE0 hE1
  have hc3' := x3.out.cell
  have hs3' := x3.out.lt
  have hc4' := x4.out.cell
  have hs4' := x4.out.lt
  have hc5' := x5.out.cell
  have hs5' := x5.out.lt
  go_upto_region 3 with fail
  refine wp_region_flt [(some 7, 6), (some 8, 7), (some 9, 8)] (fun _ => .cells #[.slice none 0 0] 24) [(0, true), (2, true), (4, true), (1, false), (3, false), (5, false)] [(9, false), (10, false), (11, false)] (fun _ => undef) (by kernel_rfl) (by kernel_rfl) (by kernel_rfl) (by kernel_rfl) (by kernel_rfl) (fun _ _ d _ _ h => by cases d <;> exact h) ?_ rfl ?_
  · refine floats_of (by kernel_rfl) ?_ (by decide) (by decide) (by decide)
    intro p hp
    simp only [List.mem_cons, List.not_mem_nil, or_false] at hp
    rcases hp with rfl | rfl | rfl
    all_goals
      intro K a w h
      refine flt_lay rfl rfl ?_
      go_simp
      exact h
  obtain ⟨wd, hwd⟩ : ∃ x, x = w1.drew := ⟨_, rfl⟩
  rw [← hwd]
  have hEd : Ext w1 wd := by rw [hwd]; exact (Below.refl _ _).drew
  clear hwd
  replace hc3' := (x3.out.ext hEd).cell
  replace hs3' := (x3.out.ext hEd).lt
  replace hc4' := (x4.out.ext hEd).cell
  replace hs4' := (x4.out.ext hEd).lt
  replace hc5' := (x5.out.ext hEd).cell
  replace hs5' := (x5.out.ext hEd).lt
  replace h1 := hide (h1.out.ext hEd)
  replace h2 := hide (h2.out.ext hEd)
  replace h3 := hide (h3.out.ext hEd)
  replace hL := hide (hL.out.ext hEd)
  replace hB := hide (hB.out.trans (hEd.mono hB.out.size))
  clear hEd x3 x4 x5
  have T : Ext wd wd := Below.refl _ _
  iterate 3
    apply flt_q rfl rfl
    · intro x W hW
      have hcW : ∀ (b o : Nat), b < (World.heap wd).size → W.cell? ⟨b, o, none⟩ = World.cell? wd ⟨b, o, none⟩ := (bcell hW).1
      simp only [puts, Act.put, List.setIfInBounds_toArray, List.set_cons_zero, List.set_cons_succ]
      go_simp
      try exact rfl
    simp only [Act.put, List.setIfInBounds_toArray, List.set_cons_zero, List.set_cons_succ]
  have hfa : Fit (xs.take 160) := fun x hx => hfx x (List.mem_of_mem_take hx)
  have hfb : Fit (ys.take 160) := fun x hx => hfy x (List.mem_of_mem_take hx)
  have hfc : Fit (zs.take 160) := fun x hx => hfz x (List.mem_of_mem_take hx)
  have hla : (xs.take 160).length ≤ 160 := by rw [List.length_take]; omega
  have hlb : (ys.take 160).length ≤ 160 := by rw [List.length_take]; omega
  have hlc : (zs.take 160).length ≤ 160 := by rw [List.length_take]; omega
  have ⟨a, ha⟩ : ∃ a, a = xs.take 160 := ⟨_, rfl⟩
  have ⟨b, hb⟩ : ∃ b, b = ys.take 160 := ⟨_, rfl⟩
  have ⟨c, hc⟩ : ∃ c, c = zs.take 160 := ⟨_, rfl⟩
  rw [← ha] at hfa hla
  rw [← hb] at hfb hlb
  rw [← hc] at hfc hlc
  refine flt_w rfl rfl fun W x hE K hK => ?_
  simp only [puts, Act.put, List.setIfInBounds_toArray, List.set_cons_zero, List.set_cons_succ]
  go_simp
  replace T := T.trans (hE.mono T.size)
  refine (own_any A1 n1 c1 xs _ (h1.out.ext T) hn1.out hc1).mono ?_
  rintro e w2 ⟨v, rfl, hO, hE2⟩
  refine hK _ _ hE2 (by simp only [puts, Act.put, List.setIfInBounds_toArray, List.set_cons_zero, List.set_cons_succ]) ?_
  clear hK K
  replace T := T.trans (hE2.mono T.size)
  try simp only [Act.put, List.setIfInBounds_toArray, List.set_cons_zero, List.set_cons_succ]
  rw [← ha] at hO
  obtain ⟨A7, c7, rfl, -, hc7, -⟩ := hO.rd
  obtain ⟨n7, e7⟩ : ∃ m, m = (List.length a) := ⟨_, rfl⟩
  rw [← e7] at hc7 ⊢
  have r7 := hO.base_le (Nat.zero_le _)
  rw [← e7] at r7
  replace r7 := hide r7
  replace e7 := hide e7
  clear hO hE hE2
  refine flt_w rfl rfl fun W x hE K hK => ?_
  simp only [puts, Act.put, List.setIfInBounds_toArray, List.set_cons_zero, List.set_cons_succ]
  go_simp
  replace T := T.trans (hE.mono T.size)
  refine (own_any A2 n2 c2 ys _ (h2.out.ext T) hn2.out hc2).mono ?_
  rintro e w3 ⟨v, rfl, hO, hE2⟩
  refine hK _ _ hE2 (by simp only [puts, Act.put, List.setIfInBounds_toArray, List.set_cons_zero, List.set_cons_succ]) ?_
  clear hK K
  replace T := T.trans (hE2.mono T.size)
  try simp only [Act.put, List.setIfInBounds_toArray, List.set_cons_zero, List.set_cons_succ]
  rw [← hb] at hO
  replace r7 := hide ((r7.out.ext hE).ext hE2)
  obtain ⟨A8, c8, rfl, -, hc8, -⟩ := hO.rd
  obtain ⟨n8, e8⟩ : ∃ m, m = (List.length b) := ⟨_, rfl⟩
  rw [← e8] at hc8 ⊢
  have r8 := hO.base_le (Nat.zero_le _)
  rw [← e8] at r8
  replace r8 := hide r8
  replace e8 := hide e8
  clear hO hE hE2
  refine flt_w rfl rfl fun W x hE K hK => ?_
  simp only [puts, Act.put, List.setIfInBounds_toArray, List.set_cons_zero, List.set_cons_succ]
  go_simp
  replace T := T.trans (hE.mono T.size)
  refine (own_any A3 n3 c3 zs _ (h3.out.ext T) hn3.out hc3).mono ?_
  rintro e w4 ⟨v, rfl, hO, hE2⟩
  refine hK _ _ hE2 (by simp only [puts, Act.put, List.setIfInBounds_toArray, List.set_cons_zero, List.set_cons_succ]) ?_
  clear hK K
  replace T := T.trans (hE2.mono T.size)
  try simp only [Act.put, List.setIfInBounds_toArray, List.set_cons_zero, List.set_cons_succ]
  rw [← hc] at hO
  replace r7 := hide ((r7.out.ext hE).ext hE2)
  replace r8 := hide ((r8.out.ext hE).ext hE2)
  obtain ⟨A9, c9, rfl, -, hc9, -⟩ := hO.rd
  obtain ⟨n9, e9⟩ : ∃ m, m = (List.length c) := ⟨_, rfl⟩
  rw [← e9] at hc9 ⊢
  have r9 := hO.base_le (Nat.zero_le _)
  rw [← e9] at r9
  replace r9 := hide r9
  replace e9 := hide e9
  clear hE hE2
  refine flt_end fun W x hE hA => ?_
  simp only [puts, Act.put, List.setIfInBounds_toArray, List.set_cons_zero, List.set_cons_succ]
  obtain ⟨p7, e1, X7, l7⟩ := hA.1 6 (by simp)
  obtain ⟨p8, e2, X8, l8⟩ := hA.1 7 (by simp)
  obtain ⟨p9, e3, X9, l9⟩ := hA.1 8 (by simp)
  have d78 : p7 ≠ p8 := fun h => hA.2 6 (by simp) 7 (by simp) (by decide) (by rw [e1, e2, h])
  have d79 : p7 ≠ p9 := fun h => hA.2 6 (by simp) 8 (by simp) (by decide) (by rw [e1, e3, h])
  have d89 : p8 ≠ p9 := fun h => hA.2 7 (by simp) 8 (by simp) (by decide) (by rw [e2, e3, h])
  rw [e1, e2, e3]
  replace X7 : Hid (Box W p7 24 (.slice none 0 0)) := hide X7
  replace X8 : Hid (Box W p8 24 (.slice none 0 0)) := hide X8
  replace X9 : Hid (Box W p9 24 (.slice none 0 0)) := hide X9
  replace r7 := hide (r7.out.ext hE)
  replace r8 := hide (r8.out.ext hE)
  replace r9 := hide (r9.out.ext hE)
  replace T := T.trans (hE.mono T.size)
  replace l7 : wd.heap.size ≤ p7 := l7
  replace l8 : wd.heap.size ≤ p8 := l8
  replace l9 : wd.heap.size ≤ p9 := l9
  clear hA hE e1 e2 e3
  have hcb := X7.out.cell
  have hfb := X7.out.free
  have hsb := X7.out.lt
  refine mix_w rfl rfl (fun K hK => ?_)
  go_simp
  refine hK _ _ ?_ ?_
  · exact T.setCell (p := ⟨p7, 0, none⟩) l7 _
  clear hK K
  try simp only [Act.put, List.setIfInBounds_toArray, List.set_cons_zero, List.set_cons_succ]
  obtain ⟨w5, hN⟩ : ∃ x, x = World.setCell W ⟨p7, 0, none⟩ (.slice A7 n7 c7) := ⟨_, rfl⟩
  rw [← hN]
  replace T : Ext wd w5 := by rw [hN]; exact T.setCell (p := ⟨p7, 0, none⟩) l7 _
  replace r7 := hide (by rw [hN]; exact r7.out.set X7.out (by decide) _ : Own wE 43 0 w5 (.slice A7 n7 c7) a)
  replace r8 := hide (by rw [hN]; exact r8.out.set X7.out (by decide) _ : Own wE 43 0 w5 (.slice A8 n8 c8) b)
  replace r9 := hide (by rw [hN]; exact r9.out.set X7.out (by decide) _ : Own wE 43 0 w5 (.slice A9 n9 c9) c)
  replace X7 : Hid (Box w5 p7 24 (.slice A7 n7 c7)) := hide (by rw [hN]; exact X7.out.set _)
  replace X8 := hide (by rw [hN]; exact X8.out.far (p := ⟨p7, 0, none⟩) (Ne.symm d78) _ : Box w5 p8 24 (.slice none 0 0))
  replace X9 := hide (by rw [hN]; exact X9.out.far (p := ⟨p7, 0, none⟩) (Ne.symm d79) _ : Box w5 p9 24 (.slice none 0 0))
  clear hN hcb hfb hsb
  have hcb := X8.out.cell
  have hfb := X8.out.free
  have hsb := X8.out.lt
  refine mix_w rfl rfl (fun K hK => ?_)
  go_simp
  refine hK _ _ ?_ ?_
  · exact T.setCell (p := ⟨p8, 0, none⟩) l8 _
  clear hK K
  try simp only [Act.put, List.setIfInBounds_toArray, List.set_cons_zero, List.set_cons_succ]
  obtain ⟨w6, hN⟩ : ∃ x, x = World.setCell w5 ⟨p8, 0, none⟩ (.slice A8 n8 c8) := ⟨_, rfl⟩
  rw [← hN]
  replace T : Ext wd w6 := by rw [hN]; exact T.setCell (p := ⟨p8, 0, none⟩) l8 _
  replace r7 := hide (by rw [hN]; exact r7.out.set X8.out (by decide) _ : Own wE 43 0 w6 (.slice A7 n7 c7) a)
  replace r8 := hide (by rw [hN]; exact r8.out.set X8.out (by decide) _ : Own wE 43 0 w6 (.slice A8 n8 c8) b)
  replace r9 := hide (by rw [hN]; exact r9.out.set X8.out (by decide) _ : Own wE 43 0 w6 (.slice A9 n9 c9) c)
  replace X8 : Hid (Box w6 p8 24 (.slice A8 n8 c8)) := hide (by rw [hN]; exact X8.out.set _)
  replace X7 := hide (by rw [hN]; exact X7.out.far (p := ⟨p8, 0, none⟩) d78 _ : Box w6 p7 24 (.slice A7 n7 c7))
  replace X9 := hide (by rw [hN]; exact X9.out.far (p := ⟨p8, 0, none⟩) (Ne.symm d89) _ : Box w6 p9 24 (.slice none 0 0))
  clear hN hcb hfb hsb
  have hcb := X9.out.cell
  have hfb := X9.out.free
  have hsb := X9.out.lt
  refine mix_w rfl rfl (fun K hK => ?_)
  go_simp
  refine hK _ _ ?_ ?_
  · exact T.setCell (p := ⟨p9, 0, none⟩) l9 _
  clear hK K
  try simp only [Act.put, List.setIfInBounds_toArray, List.set_cons_zero, List.set_cons_succ]
  obtain ⟨w7, hN⟩ : ∃ x, x = World.setCell w6 ⟨p9, 0, none⟩ (.slice A9 n9 c9) := ⟨_, rfl⟩
  rw [← hN]
  replace T : Ext wd w7 := by rw [hN]; exact T.setCell (p := ⟨p9, 0, none⟩) l9 _
  replace r7 := hide (by rw [hN]; exact r7.out.set X9.out (by decide) _ : Own wE 43 0 w7 (.slice A7 n7 c7) a)
  replace r8 := hide (by rw [hN]; exact r8.out.set X9.out (by decide) _ : Own wE 43 0 w7 (.slice A8 n8 c8) b)
  replace r9 := hide (by rw [hN]; exact r9.out.set X9.out (by decide) _ : Own wE 43 0 w7 (.slice A9 n9 c9) c)
  replace X9 : Hid (Box w7 p9 24 (.slice A9 n9 c9)) := hide (by rw [hN]; exact X9.out.set _)
  replace X7 := hide (by rw [hN]; exact X7.out.far (p := ⟨p9, 0, none⟩) d79 _ : Box w7 p7 24 (.slice A7 n7 c7))
  replace X8 := hide (by rw [hN]; exact X8.out.far (p := ⟨p9, 0, none⟩) d89 _ : Box w7 p8 24 (.slice A8 n8 c8))
  clear hN hcb hfb hsb
  refine mix_nil ?_
  have hBw := hide (hB.out.trans (T.mono hB.out.size))
  clear hB T h1 h2 h3 hn1 hn2 hn3 hc1 hc2 hc3 hfx hfy hfz ha hb hc l7 l8 l9 hc3' hs3' hc4' hs4' hc5' hs5'
  go_upto_region 4 with fail
  refine wp_region_flt [(some 10, 7), (some 11, 8)] (fun _ => .cells #[.slice none 0 0] 24) [(0, true), (1, true), (4, true), (5, true), (2, false), (3, false), (6, false)] [(9, false), (10, false)] (fun _ => undef) (by kernel_rfl) (by kernel_rfl) (by kernel_rfl) (by kernel_rfl) (by kernel_rfl) (fun _ _ d _ _ h => by cases d <;> exact h) ?_ rfl ?_
  · refine floats_of (by kernel_rfl) ?_ (by decide) (by decide) (by decide)
    intro p hp
    simp only [List.mem_cons, List.not_mem_nil, or_false] at hp
    rcases hp with rfl | rfl
    all_goals
      intro K a w h
      refine flt_lay rfl rfl ?_
      go_simp
      exact h
  obtain ⟨we, hwe⟩ : ∃ x, x = w7.drew := ⟨_, rfl⟩
  rw [← hwe]
  have hEd : Ext w7 we := by rw [hwe]; exact (Below.refl _ _).drew
  clear hwe
  replace X7 := hide (X7.out.ext hEd)
  replace X8 := hide (X8.out.ext hEd)
  replace X9 := hide (X9.out.ext hEd)
  replace r7 := hide (r7.out.ext hEd)
  replace r8 := hide (r8.out.ext hEd)
  replace r9 := hide (r9.out.ext hEd)
  replace hB := hide (hBw.out.trans (hEd.mono hBw.out.size))
  clear hBw hEd
  have hc7' := X7.out.cell
  have hs7' := X7.out.lt
  have hc8' := X8.out.cell
  have hs8' := X8.out.lt
  have hs9' := X9.out.lt
  have T : Ext we we := Below.refl _ _
  iterate 4
    apply flt_q rfl rfl
    · intro x W hW
      have hcW : ∀ (b o : Nat), b < (World.heap we).size → W.cell? ⟨b, o, none⟩ = World.cell? we ⟨b, o, none⟩ := (bcell hW).1
      simp only [puts, Act.put, List.setIfInBounds_toArray, List.set_cons_zero, List.set_cons_succ]
      go_simp
      try exact rfl
    simp only [Act.put, List.setIfInBounds_toArray, List.set_cons_zero, List.set_cons_succ]
  refine flt_w rfl rfl fun W x hE K hK => ?_
  simp only [puts, Act.put, List.setIfInBounds_toArray, List.set_cons_zero, List.set_cons_succ]
  go_simp
  replace T := T.trans (hE.mono T.size)
  have hEa : Ext W (W.alloc (.cells #[.slice A7 n7 c7, .slice A8 n8 c8] 24)) := (Below.refl _ _).alloc (Nat.le_refl _) _
  replace T := T.trans (hEa.mono T.size)
  have hSR : SRow (W.alloc (.cells #[.slice A7 n7 c7, .slice A8 n8 c8] 24)) (some ⟨W.heap.size, 0, none⟩) [((A7, n7, c7), a), ((A8, n8, c8), b)] :=
    srow (by simp) (cells_at (cs := [.slice A7 n7 c7, .slice A8 n8 c8]) rfl) (fun s hs => by
      rcases List.mem_cons.1 hs with rfl | hs
      · exact sok (r7.out.ext T) e7.out (by have := e7.out; omega) hfa
      · rw [List.mem_singleton] at hs; subst hs
        exact sok (r8.out.ext T) e8.out (by have := e8.out; omega) hfb)
  refine hK _ _ hEa (by simp only [puts, Act.put, List.setIfInBounds_toArray, List.set_cons_zero, List.set_cons_succ]) ?_
  clear hK K
  try simp only [Act.put, List.setIfInBounds_toArray, List.set_cons_zero, List.set_cons_succ]
  obtain ⟨w8, hw8⟩ : ∃ x, x = W.alloc (.cells #[.slice A7 n7 c7, .slice A8 n8 c8] 24) := ⟨_, rfl⟩
  rw [← hw8] at hSR T ⊢
  clear hw8 hEa hE
  generalize W.heap.size = g24 at *
  refine flt_w rfl rfl fun W x hE K hK => ?_
  simp only [puts, Act.put, List.setIfInBounds_toArray, List.set_cons_zero, List.set_cons_succ]
  go_simp
  replace T := T.trans (hE.mono T.size)
  refine (union_any (some ⟨g24, 0, none⟩) 2 2 [((A7, n7, c7), a), ((A8, n8, c8), b)] _ (hSR.ext hE) rfl (by omega)).mono ?_
  rintro e w9 ⟨v, rfl, hO, hE2⟩
  refine hK _ _ hE2 (by simp only [puts, Act.put, List.setIfInBounds_toArray, List.set_cons_zero, List.set_cons_succ]) ?_
  clear hK K
  replace T := T.trans (hE2.mono T.size)
  try simp only [Act.put, List.setIfInBounds_toArray, List.set_cons_zero, List.set_cons_succ]
  rw [unionL_eq] at hO
  replace hO : Own wE 43 _ w9 v (uni [a, b]) := hO
  have hfA : Fit (uni [a, b]) := uni_fit _ (all2 (p := Fit) hfa hfb)
  have hlA : (uni [a, b]).length ≤ 160 := uni_len 160 _ (all2 (p := fun v : List Nat => v.length ≤ 160) hla hlb)
  obtain ⟨A10, c10, rfl, -, hc10, -⟩ := hO.rd
  obtain ⟨n10, e10⟩ : ∃ m, m = (List.length (uni [a, b])) := ⟨_, rfl⟩
  rw [← e10] at hc10 ⊢
  have r10 := hO.base_le (Nat.zero_le _)
  rw [← e10] at r10
  replace r10 := hide r10
  replace e10 := hide e10
  clear hO hE hE2 hSR
  refine flt_w rfl rfl fun W x hE K hK => ?_
  simp only [puts, Act.put, List.setIfInBounds_toArray, List.set_cons_zero, List.set_cons_succ]
  go_simp
  replace T := T.trans (hE.mono T.size)
  refine (meet_any A7 A8 n7 c7 n8 c8 a b _ (rdO (r7.out.ext T)) e7.out (by have := e7.out; omega) hfa (rdO (r8.out.ext T)) e8.out (by have := e8.out; omega) hfb).mono ?_
  rintro e w10 ⟨v, rfl, hO, hE2⟩
  refine hK _ _ hE2 (by simp only [puts, Act.put, List.setIfInBounds_toArray, List.set_cons_zero, List.set_cons_succ]) ?_
  clear hK K
  replace T := T.trans (hE2.mono T.size)
  try simp only [Act.put, List.setIfInBounds_toArray, List.set_cons_zero, List.set_cons_succ]
  replace hO : Own wE 43 _ w10 v (meetW a b) := hO
  replace r10 := hide ((r10.out.ext hE).ext hE2)
  have hfM : Fit (meetW a b) := meet_fit hfa hfb
  have hlM : (meetW a b).length ≤ 160 := meet_len 160 hla hlb
  obtain ⟨A11, c11, rfl, -, hc11, -⟩ := hO.rd
  obtain ⟨n11, e11⟩ : ∃ m, m = (List.length (meetW a b)) := ⟨_, rfl⟩
  rw [← e11] at hc11 ⊢
  have r11 := hO.base_le (Nat.zero_le _)
  rw [← e11] at r11
  replace r11 := hide r11
  replace e11 := hide e11
  clear hO hE hE2
  refine flt_end fun W x hE hA => ?_
  simp only [puts, Act.put, List.setIfInBounds_toArray, List.set_cons_zero, List.set_cons_succ]
  obtain ⟨p10, q1, X10, l10⟩ := hA.1 7 (by simp)
  obtain ⟨p11, q2, X11, l11⟩ := hA.1 8 (by simp)
  have d1 : p10 ≠ p11 := fun h => hA.2 7 (by simp) 8 (by simp) (by decide) (by rw [q1, q2, h])
  rw [q1, q2]
  replace X10 : Hid (Box W p10 24 (.slice none 0 0)) := hide X10
  replace X11 : Hid (Box W p11 24 (.slice none 0 0)) := hide X11
  replace r10 := hide (r10.out.ext hE)
  replace r11 := hide (r11.out.ext hE)
  replace T := T.trans (hE.mono T.size)
  clear hA hE q1 q2
  replace r7 := hide (r7.out.ext T)
  replace r8 := hide (r8.out.ext T)
  replace r9 := hide (r9.out.ext T)
  replace X7 := hide (X7.out.ext T)
  replace X8 := hide (X8.out.ext T)
  replace X9 := hide (X9.out.ext T)
  replace l10 : we.heap.size ≤ p10 := l10
  replace l11 : we.heap.size ≤ p11 := l11
  have f7 : p7 < we.heap.size := hs7'
  have f8 : p8 < we.heap.size := hs8'
  have f9 : p9 < we.heap.size := hs9'
  have hcb := X10.out.cell
  have hfb := X10.out.free
  have hsb := X10.out.lt
  refine mix_w rfl rfl (fun K hK => ?_)
  go_simp
  refine hK _ _ ?_ ?_
  · exact T.setCell (p := ⟨p10, 0, none⟩) l10 _
  clear hK K
  try simp only [Act.put, List.setIfInBounds_toArray, List.set_cons_zero, List.set_cons_succ]
  obtain ⟨w11, hN⟩ : ∃ x, x = World.setCell W ⟨p10, 0, none⟩ (.slice A10 n10 c10) := ⟨_, rfl⟩
  rw [← hN]
  replace T : Ext we w11 := by rw [hN]; exact T.setCell (p := ⟨p10, 0, none⟩) l10 _
  replace r7 := hide (by rw [hN]; exact r7.out.set X10.out (by decide) _ : Own wE 43 0 w11 (.slice A7 n7 c7) a)
  replace r8 := hide (by rw [hN]; exact r8.out.set X10.out (by decide) _ : Own wE 43 0 w11 (.slice A8 n8 c8) b)
  replace r9 := hide (by rw [hN]; exact r9.out.set X10.out (by decide) _ : Own wE 43 0 w11 (.slice A9 n9 c9) c)
  replace r10 := hide (by rw [hN]; exact r10.out.set X10.out (by decide) _ : Own wE 43 0 w11 (.slice A10 n10 c10) (uni [a, b]))
  replace r11 := hide (by rw [hN]; exact r11.out.set X10.out (by decide) _ : Own wE 43 0 w11 (.slice A11 n11 c11) (meetW a b))
  replace X10 : Hid (Box w11 p10 24 (.slice A10 n10 c10)) := hide (by rw [hN]; exact X10.out.set _)
  replace X11 := hide (by rw [hN]; exact X11.out.far (p := ⟨p10, 0, none⟩) (Ne.symm d1) _ : Box w11 p11 24 (.slice none 0 0))
  replace X7 := hide (by rw [hN]; exact X7.out.far (p := ⟨p10, 0, none⟩) (show p7 ≠ p10 by omega) _ : Box w11 p7 24 (.slice A7 n7 c7))
  replace X8 := hide (by rw [hN]; exact X8.out.far (p := ⟨p10, 0, none⟩) (show p8 ≠ p10 by omega) _ : Box w11 p8 24 (.slice A8 n8 c8))
  replace X9 := hide (by rw [hN]; exact X9.out.far (p := ⟨p10, 0, none⟩) (show p9 ≠ p10 by omega) _ : Box w11 p9 24 (.slice A9 n9 c9))
  clear hN hcb hfb hsb
  have hcb := X11.out.cell
  have hfb := X11.out.free
  have hsb := X11.out.lt
  refine mix_w rfl rfl (fun K hK => ?_)
  go_simp
  refine hK _ _ ?_ ?_
  · exact T.setCell (p := ⟨p11, 0, none⟩) l11 _
  clear hK K
  try simp only [Act.put, List.setIfInBounds_toArray, List.set_cons_zero, List.set_cons_succ]
  obtain ⟨w12, hN⟩ : ∃ x, x = World.setCell w11 ⟨p11, 0, none⟩ (.slice A11 n11 c11) := ⟨_, rfl⟩
  rw [← hN]
  replace T : Ext we w12 := by rw [hN]; exact T.setCell (p := ⟨p11, 0, none⟩) l11 _
  replace r7 := hide (by rw [hN]; exact r7.out.set X11.out (by decide) _ : Own wE 43 0 w12 (.slice A7 n7 c7) a)
  replace r8 := hide (by rw [hN]; exact r8.out.set X11.out (by decide) _ : Own wE 43 0 w12 (.slice A8 n8 c8) b)
  replace r9 := hide (by rw [hN]; exact r9.out.set X11.out (by decide) _ : Own wE 43 0 w12 (.slice A9 n9 c9) c)
  replace r10 := hide (by rw [hN]; exact r10.out.set X11.out (by decide) _ : Own wE 43 0 w12 (.slice A10 n10 c10) (uni [a, b]))
  replace r11 := hide (by rw [hN]; exact r11.out.set X11.out (by decide) _ : Own wE 43 0 w12 (.slice A11 n11 c11) (meetW a b))
  replace X11 : Hid (Box w12 p11 24 (.slice A11 n11 c11)) := hide (by rw [hN]; exact X11.out.set _)
  replace X10 := hide (by rw [hN]; exact X10.out.far (p := ⟨p11, 0, none⟩) d1 _ : Box w12 p10 24 (.slice A10 n10 c10))
  replace X7 := hide (by rw [hN]; exact X7.out.far (p := ⟨p11, 0, none⟩) (show p7 ≠ p11 by omega) _ : Box w12 p7 24 (.slice A7 n7 c7))
  replace X8 := hide (by rw [hN]; exact X8.out.far (p := ⟨p11, 0, none⟩) (show p8 ≠ p11 by omega) _ : Box w12 p8 24 (.slice A8 n8 c8))
  replace X9 := hide (by rw [hN]; exact X9.out.far (p := ⟨p11, 0, none⟩) (show p9 ≠ p11 by omega) _ : Box w12 p9 24 (.slice A9 n9 c9))
  clear hN hcb hfb hsb
  refine mix_nil ?_
  have hBw := hide (hB.out.trans (T.mono hB.out.size))
  clear hB T l10 l11 f7 f8 f9 hc7' hs7' hc8' hs8' hs9'
  go_upto_region 5 with fail
  refine wp_region_flt [(some 12, 6), (some 13, 7)] (fun _ => .cells #[.slice none 0 0] 24) [(0, true), (1, true), (3, true), (4, true), (2, false), (5, false)] [(8, false), (9, false)] (fun _ => undef) (by kernel_rfl) (by kernel_rfl) (by kernel_rfl) (by kernel_rfl) (by kernel_rfl) (fun _ _ d _ _ h => by cases d <;> exact h) ?_ rfl ?_
  · refine floats_of (by kernel_rfl) ?_ (by decide) (by decide) (by decide)
    intro p hp
    simp only [List.mem_cons, List.not_mem_nil, or_false] at hp
    rcases hp with rfl | rfl
    all_goals
      intro K a w h
      refine flt_lay rfl rfl ?_
      go_simp
      exact h
  obtain ⟨wg, hwg⟩ : ∃ x, x = w12.drew := ⟨_, rfl⟩
  rw [← hwg]
  have hEd : Ext w12 wg := by rw [hwg]; exact (Below.refl _ _).drew
  clear hwg
  replace X7 := hide (X7.out.ext hEd)
  replace X8 := hide (X8.out.ext hEd)
  replace X9 := hide (X9.out.ext hEd)
  replace X10 := hide (X10.out.ext hEd)
  replace X11 := hide (X11.out.ext hEd)
  replace r7 := hide (r7.out.ext hEd)
  replace r8 := hide (r8.out.ext hEd)
  replace r9 := hide (r9.out.ext hEd)
  replace r10 := hide (r10.out.ext hEd)
  replace r11 := hide (r11.out.ext hEd)
  replace hB := hide (hBw.out.trans (hEd.mono hBw.out.size))
  clear hBw hEd
  have hc7' := X7.out.cell
  have hs7' := X7.out.lt
  have hc8' := X8.out.cell
  have hs8' := X8.out.lt
  have hs9' := X9.out.lt
  have hs10' := X10.out.lt
  have hs11' := X11.out.lt
  have T : Ext wg wg := Below.refl _ _
  iterate 4
    apply flt_q rfl rfl
    · intro x W hW
      have hcW : ∀ (b o : Nat), b < (World.heap wg).size → W.cell? ⟨b, o, none⟩ = World.cell? wg ⟨b, o, none⟩ := (bcell hW).1
      simp only [puts, Act.put, List.setIfInBounds_toArray, List.set_cons_zero, List.set_cons_succ]
      go_simp
      try exact rfl
    simp only [Act.put, List.setIfInBounds_toArray, List.set_cons_zero, List.set_cons_succ]
  refine flt_w rfl rfl fun W x hE K hK => ?_
  simp only [puts, Act.put, List.setIfInBounds_toArray, List.set_cons_zero, List.set_cons_succ]
  go_simp
  replace T := T.trans (hE.mono T.size)
  refine (minusS_any A7 A8 n7 c7 n8 c8 a b _ (rdO (r7.out.ext T)) e7.out (by have := e7.out; omega) hfa (rdO (r8.out.ext T)) e8.out (by have := e8.out; omega) hfb).mono ?_
  rintro e w13 ⟨v, rfl, hO, hE2⟩
  refine hK _ _ hE2 (by simp only [puts, Act.put, List.setIfInBounds_toArray, List.set_cons_zero, List.set_cons_succ]) ?_
  clear hK K
  replace T := T.trans (hE2.mono T.size)
  try simp only [Act.put, List.setIfInBounds_toArray, List.set_cons_zero, List.set_cons_succ]
  replace hO : Own wE 43 _ w13 v (minusW a b) := hO
  have hfP : Fit (minusW a b) := minusW_fit hfa hfb
  have hlP : (minusW a b).length ≤ 160 := minusW_len 160 hla hlb
  obtain ⟨A12, c12, rfl, -, hc12, -⟩ := hO.rd
  obtain ⟨n12, e12⟩ : ∃ m, m = (List.length (minusW a b)) := ⟨_, rfl⟩
  rw [← e12] at hc12 ⊢
  have r12 := hO.base_le (Nat.zero_le _)
  rw [← e12] at r12
  replace r12 := hide r12
  replace e12 := hide e12
  clear hO hE hE2
  refine flt_w rfl rfl fun W x hE K hK => ?_
  simp only [puts, Act.put, List.setIfInBounds_toArray, List.set_cons_zero, List.set_cons_succ]
  go_simp
  replace T := T.trans (hE.mono T.size)
  refine (minusS_any A8 A7 n8 c8 n7 c7 b a _ (rdO (r8.out.ext T)) e8.out (by have := e8.out; omega) hfb (rdO (r7.out.ext T)) e7.out (by have := e7.out; omega) hfa).mono ?_
  rintro e w14 ⟨v, rfl, hO, hE2⟩
  refine hK _ _ hE2 (by simp only [puts, Act.put, List.setIfInBounds_toArray, List.set_cons_zero, List.set_cons_succ]) ?_
  clear hK K
  replace T := T.trans (hE2.mono T.size)
  try simp only [Act.put, List.setIfInBounds_toArray, List.set_cons_zero, List.set_cons_succ]
  replace hO : Own wE 43 _ w14 v (minusW b a) := hO
  replace r12 := hide ((r12.out.ext hE).ext hE2)
  have hfQ : Fit (minusW b a) := minusW_fit hfb hfa
  have hlQ : (minusW b a).length ≤ 160 := minusW_len 160 hlb hla
  obtain ⟨A13, c13, rfl, -, hc13, -⟩ := hO.rd
  obtain ⟨n13, e13⟩ : ∃ m, m = (List.length (minusW b a)) := ⟨_, rfl⟩
  rw [← e13] at hc13 ⊢
  have r13 := hO.base_le (Nat.zero_le _)
  rw [← e13] at r13
  replace r13 := hide r13
  replace e13 := hide e13
  clear hO hE hE2
  refine flt_end fun W x hE hA => ?_
  simp only [puts, Act.put, List.setIfInBounds_toArray, List.set_cons_zero, List.set_cons_succ]
  obtain ⟨p12, q1, X12, l12⟩ := hA.1 6 (by simp)
  obtain ⟨p13, q2, X13, l13⟩ := hA.1 7 (by simp)
  have d1 : p12 ≠ p13 := fun h => hA.2 6 (by simp) 7 (by simp) (by decide) (by rw [q1, q2, h])
  rw [q1, q2]
  replace X12 : Hid (Box W p12 24 (.slice none 0 0)) := hide X12
  replace X13 : Hid (Box W p13 24 (.slice none 0 0)) := hide X13
  replace r12 := hide (r12.out.ext hE)
  replace r13 := hide (r13.out.ext hE)
  replace T := T.trans (hE.mono T.size)
  clear hA hE q1 q2
  replace r7 := hide (r7.out.ext T)
  replace r8 := hide (r8.out.ext T)
  replace r9 := hide (r9.out.ext T)
  replace r10 := hide (r10.out.ext T)
  replace r11 := hide (r11.out.ext T)
  replace X7 := hide (X7.out.ext T)
  replace X8 := hide (X8.out.ext T)
  replace X9 := hide (X9.out.ext T)
  replace X10 := hide (X10.out.ext T)
  replace X11 := hide (X11.out.ext T)
  replace l12 : wg.heap.size ≤ p12 := l12
  replace l13 : wg.heap.size ≤ p13 := l13
  have f7 : p7 < wg.heap.size := hs7'
  have f8 : p8 < wg.heap.size := hs8'
  have f9 : p9 < wg.heap.size := hs9'
  have f10 : p10 < wg.heap.size := hs10'
  have f11 : p11 < wg.heap.size := hs11'
  have hcb := X12.out.cell
  have hfb := X12.out.free
  have hsb := X12.out.lt
  refine mix_w rfl rfl (fun K hK => ?_)
  go_simp
  refine hK _ _ ?_ ?_
  · exact T.setCell (p := ⟨p12, 0, none⟩) l12 _
  clear hK K
  try simp only [Act.put, List.setIfInBounds_toArray, List.set_cons_zero, List.set_cons_succ]
  obtain ⟨w15, hN⟩ : ∃ x, x = World.setCell W ⟨p12, 0, none⟩ (.slice A12 n12 c12) := ⟨_, rfl⟩
  rw [← hN]
  replace T : Ext wg w15 := by rw [hN]; exact T.setCell (p := ⟨p12, 0, none⟩) l12 _
  replace r7 := hide (by rw [hN]; exact r7.out.set X12.out (by decide) _ : Own wE 43 0 w15 (.slice A7 n7 c7) a)
  replace r8 := hide (by rw [hN]; exact r8.out.set X12.out (by decide) _ : Own wE 43 0 w15 (.slice A8 n8 c8) b)
  replace r9 := hide (by rw [hN]; exact r9.out.set X12.out (by decide) _ : Own wE 43 0 w15 (.slice A9 n9 c9) c)
  replace r10 := hide (by rw [hN]; exact r10.out.set X12.out (by decide) _ : Own wE 43 0 w15 (.slice A10 n10 c10) (uni [a, b]))
  replace r11 := hide (by rw [hN]; exact r11.out.set X12.out (by decide) _ : Own wE 43 0 w15 (.slice A11 n11 c11) (meetW a b))
  replace r12 := hide (by rw [hN]; exact r12.out.set X12.out (by decide) _ : Own wE 43 0 w15 (.slice A12 n12 c12) (minusW a b))
  replace r13 := hide (by rw [hN]; exact r13.out.set X12.out (by decide) _ : Own wE 43 0 w15 (.slice A13 n13 c13) (minusW b a))
  replace X12 : Hid (Box w15 p12 24 (.slice A12 n12 c12)) := hide (by rw [hN]; exact X12.out.set _)
  replace X13 := hide (by rw [hN]; exact X13.out.far (p := ⟨p12, 0, none⟩) (Ne.symm d1) _ : Box w15 p13 24 (.slice none 0 0))
  replace X7 := hide (by rw [hN]; exact X7.out.far (p := ⟨p12, 0, none⟩) (show p7 ≠ p12 by omega) _ : Box w15 p7 24 (.slice A7 n7 c7))
  replace X8 := hide (by rw [hN]; exact X8.out.far (p := ⟨p12, 0, none⟩) (show p8 ≠ p12 by omega) _ : Box w15 p8 24 (.slice A8 n8 c8))
  replace X9 := hide (by rw [hN]; exact X9.out.far (p := ⟨p12, 0, none⟩) (show p9 ≠ p12 by omega) _ : Box w15 p9 24 (.slice A9 n9 c9))
  replace X10 := hide (by rw [hN]; exact X10.out.far (p := ⟨p12, 0, none⟩) (show p10 ≠ p12 by omega) _ : Box w15 p10 24 (.slice A10 n10 c10))
  replace X11 := hide (by rw [hN]; exact X11.out.far (p := ⟨p12, 0, none⟩) (show p11 ≠ p12 by omega) _ : Box w15 p11 24 (.slice A11 n11 c11))
  clear hN hcb hfb hsb
  have hcb := X13.out.cell
  have hfb := X13.out.free
  have hsb := X13.out.lt
  refine mix_w rfl rfl (fun K hK => ?_)
  go_simp
  refine hK _ _ ?_ ?_
  · exact T.setCell (p := ⟨p13, 0, none⟩) l13 _
  clear hK K
  try simp only [Act.put, List.setIfInBounds_toArray, List.set_cons_zero, List.set_cons_succ]
  obtain ⟨w16, hN⟩ : ∃ x, x = World.setCell w15 ⟨p13, 0, none⟩ (.slice A13 n13 c13) := ⟨_, rfl⟩
  rw [← hN]
  replace T : Ext wg w16 := by rw [hN]; exact T.setCell (p := ⟨p13, 0, none⟩) l13 _
  replace r7 := hide (by rw [hN]; exact r7.out.set X13.out (by decide) _ : Own wE 43 0 w16 (.slice A7 n7 c7) a)
  replace r8 := hide (by rw [hN]; exact r8.out.set X13.out (by decide) _ : Own wE 43 0 w16 (.slice A8 n8 c8) b)
  replace r9 := hide (by rw [hN]; exact r9.out.set X13.out (by decide) _ : Own wE 43 0 w16 (.slice A9 n9 c9) c)
  replace r10 := hide (by rw [hN]; exact r10.out.set X13.out (by decide) _ : Own wE 43 0 w16 (.slice A10 n10 c10) (uni [a, b]))
  replace r11 := hide (by rw [hN]; exact r11.out.set X13.out (by decide) _ : Own wE 43 0 w16 (.slice A11 n11 c11) (meetW a b))
  replace r12 := hide (by rw [hN]; exact r12.out.set X13.out (by decide) _ : Own wE 43 0 w16 (.slice A12 n12 c12) (minusW a b))
  replace r13 := hide (by rw [hN]; exact r13.out.set X13.out (by decide) _ : Own wE 43 0 w16 (.slice A13 n13 c13) (minusW b a))
  replace X13 : Hid (Box w16 p13 24 (.slice A13 n13 c13)) := hide (by rw [hN]; exact X13.out.set _)
  replace X12 := hide (by rw [hN]; exact X12.out.far (p := ⟨p13, 0, none⟩) d1 _ : Box w16 p12 24 (.slice A12 n12 c12))
  replace X7 := hide (by rw [hN]; exact X7.out.far (p := ⟨p13, 0, none⟩) (show p7 ≠ p13 by omega) _ : Box w16 p7 24 (.slice A7 n7 c7))
  replace X8 := hide (by rw [hN]; exact X8.out.far (p := ⟨p13, 0, none⟩) (show p8 ≠ p13 by omega) _ : Box w16 p8 24 (.slice A8 n8 c8))
  replace X9 := hide (by rw [hN]; exact X9.out.far (p := ⟨p13, 0, none⟩) (show p9 ≠ p13 by omega) _ : Box w16 p9 24 (.slice A9 n9 c9))
  replace X10 := hide (by rw [hN]; exact X10.out.far (p := ⟨p13, 0, none⟩) (show p10 ≠ p13 by omega) _ : Box w16 p10 24 (.slice A10 n10 c10))
  replace X11 := hide (by rw [hN]; exact X11.out.far (p := ⟨p13, 0, none⟩) (show p11 ≠ p13 by omega) _ : Box w16 p11 24 (.slice A11 n11 c11))
  clear hN hcb hfb hsb
  refine mix_nil ?_
  have hBw := hide (hB.out.trans (T.mono hB.out.size))
  clear hB T l12 l13 f7 f8 f9 f10 f11 hc7' hs7' hc8' hs8' hs9' hs10' hs11'
  have hc10' := X10.out.cell
  have hs10' := X10.out.lt
  have hc11' := X11.out.cell
  have hs11' := X11.out.lt
  have hc12' := X12.out.cell
  have hs12' := X12.out.lt
  have hc13' := X13.out.cell
  have hs13' := X13.out.lt
  go_upto_region 6 with fail
  have T : Ext w16 w16.drew := (Below.refl _ _).drew
  refine wp_region_mix (fun W => Below w16.heap.size w16 W) [(0, true), (1, true), (2, true), (5, true), (3, false), (4, false), (6, false), (7, true), (8, true), (9, true), (11, true), (14, true), (17, true), (10, false), (12, false), (13, true), (15, false), (16, true), (18, false), (19, true), (20, true), (21, true), (22, true), (23, true), (24, false), (25, false), (26, true), (27, true)] (by kernel_rfl) (by kernel_rfl) (by kernel_rfl) (by kernel_rfl) (fun _ _ d _ _ h => by cases d <;> exact h) ?_ ?_
  · exact T
  obtain ⟨wh, hwh⟩ : ∃ x, x = w16.drew := ⟨_, rfl⟩
  rw [← hwh] at T ⊢
  clear hwh
  iterate 4
    apply mix_q rfl rfl
    · intro W hW
      have hcW := (bcell hW).1
      go_simp
      try exact rfl
    simp only [Act.put, List.setIfInBounds_toArray, List.set_cons_zero, List.set_cons_succ]
  refine mix_w rfl rfl (fun K hK => ?_)
  go_simp
  have hE : Ext (wh) (World.alloc (wh) (.cells #[.slice A12 n12 c12, .slice A11 n11 c11, .slice A13 n13 c13] 24)) := (Below.refl _ _).alloc (Nat.le_refl _) _
  replace T := T.trans (hE.mono T.size)
  have hSR : SRow (World.alloc (wh) (.cells #[.slice A12 n12 c12, .slice A11 n11 c11, .slice A13 n13 c13] 24)) (some ⟨(World.heap (wh)).size, 0, none⟩) [((A12, n12, c12), (minusW a b)), ((A11, n11, c11), (meetW a b)), ((A13, n13, c13), (minusW b a))] :=
    srow (by simp) (cells_at (cs := [.slice A12 n12 c12, .slice A11 n11 c11, .slice A13 n13 c13]) rfl) (all3 (p := SOk _) (sok (r12.out.ext T) e12.out (by have := e12.out; omega) hfP) (sok (r11.out.ext T) e11.out (by have := e11.out; omega) hfM) (sok (r13.out.ext T) e13.out (by have := e13.out; omega) hfQ))
  refine hK _ _ T ?_
  clear hK K
  try simp only [Act.put, List.setIfInBounds_toArray, List.set_cons_zero, List.set_cons_succ]
  obtain ⟨w17, hwN⟩ : ∃ x, x = World.alloc (wh) (.cells #[.slice A12 n12 c12, .slice A11 n11 c11, .slice A13 n13 c13] 24) := ⟨_, rfl⟩
  rw [← hwN] at hSR T ⊢
  clear hwN hE
  generalize (World.heap (wh)).size = g1 at *
  refine mix_w rfl rfl (fun K hK => ?_)
  go_simp
  refine (union_any (some ⟨g1, 0, none⟩) 3 3 [((A12, n12, c12), minusW a b), ((A11, n11, c11), meetW a b), ((A13, n13, c13), minusW b a)] _ hSR rfl (by omega)).mono ?_
  rintro e w18 ⟨v, rfl, hO, hE⟩
  refine hK _ _ (T.trans (hE.mono T.size)) ?_
  clear hK K
  try simp only [Act.put, List.setIfInBounds_toArray, List.set_cons_zero, List.set_cons_succ]
  replace T := T.trans (hE.mono T.size)
  rw [unionL_eq] at hO
  replace hO : Own wE 43 _ w18 v (uni [minusW a b, meetW a b, minusW b a]) := hO
  rw [parts_all hfa hfb] at hO
  obtain ⟨A20, c20, rfl, -, hc20, -⟩ := hO.rd
  obtain ⟨n20, e20⟩ : ∃ m, m = (List.length (uni [a, b])) := ⟨_, rfl⟩
  rw [← e20] at hc20 ⊢
  have r20 := hO.base_le (Nat.zero_le _)
  rw [← e20] at r20
  replace r20 := hide r20
  replace e20 := hide e20
  clear hO hE hSR
  refine mix_w rfl rfl (fun K hK => ?_)
  go_simp
  refine (same_any A20 A10 n20 c20 n10 c10 (uni [a, b]) (uni [a, b]) _ (rdO r20.out) e20.out (by have := e20.out; omega) hfA (rdO (r10.out.ext T)) e10.out (by have := e10.out; omega) hfA).mono ?_
  rintro e w19 ⟨rfl, hE⟩
  refine hK _ _ (T.trans (hE.mono T.size)) ?_
  clear hK K
  try simp only [Act.put, List.setIfInBounds_toArray, List.set_cons_zero, List.set_cons_succ]
  replace T := T.trans (hE.mono T.size)
  clear hE r20 e20 hc20
  obtain ⟨NP, hNP⟩ : ∃ x, x = (nums (ofW (minusW a b))).length := ⟨_, rfl⟩
  obtain ⟨NM, hNM⟩ : ∃ x, x = (nums (ofW (meetW a b))).length := ⟨_, rfl⟩
  obtain ⟨NQ, hNQ⟩ : ∃ x, x = (nums (ofW (minusW b a))).length := ⟨_, rfl⟩
  obtain ⟨NU, hNU⟩ : ∃ x, x = (nums (ofW (uni [a, b]))).length := ⟨_, rfl⟩
  have hsum := parts_count hfa hfb
  rw [← hNP, ← hNM, ← hNQ, ← hNU] at hsum
  have hbU : NU ≤ 64 * 160 := by
    rw [hNU]
    exact Nat.le_trans (nums_length _) (Nat.mul_le_mul_left _ (Nat.le_trans (ofW_le _) hlA))
  obtain ⟨N1, hN1⟩ : ∃ x, x = NP + NM := ⟨_, rfl⟩
  have u1 : IntKind.i64.wrap ((NP : Int) + (NM : Int)) = (N1 : Int) := by rw [IntWalk.i64_in _ (by omega)]; omega
  have u2 : IntKind.i64.wrap ((N1 : Int) + (NQ : Int)) = (NU : Int) := by rw [IntWalk.i64_in _ (by omega)]; omega
  replace hNP := hide hNP
  replace hNM := hide hNM
  replace hNQ := hide hNQ
  replace hNU := hide hNU
  replace hN1 := hide hN1
  replace hsum := hide hsum
  iterate 2
    apply mix_q rfl rfl
    · intro W hW
      have hcW := (bcell hW).1
      go_simp
      try exact rfl
    simp only [Act.put, List.setIfInBounds_toArray, List.set_cons_zero, List.set_cons_succ]
  iterate 4
    apply mix_on rfl (wanted_is rfl rfl rfl rfl rfl)
    · intro W hW
      have hcW := (bcell hW).1
      go_simp
      try exact rfl
    simp only [Act.put, List.setIfInBounds_toArray, List.set_cons_zero, List.set_cons_succ]
  refine mix_won rfl (wanted_is rfl rfl rfl rfl rfl) (fun K hK => ?_)
  go_simp
  refine (count_any A12 n12 c12 (minusW a b) _ (rdO (r12.out.ext T)) e12.out (by have := e12.out; omega) hfP).mono ?_
  rintro e w20 ⟨rfl, hE⟩
  refine hK _ _ (T.trans (hE.mono T.size)) ?_
  clear hK K
  try simp only [Act.put, List.setIfInBounds_toArray, List.set_cons_zero, List.set_cons_succ]
  replace T := T.trans (hE.mono T.size)
  rw [← hNP.out]
  clear hE
  refine mix_won rfl (wanted_is rfl rfl rfl rfl rfl) (fun K hK => ?_)
  go_simp
  refine (count_any A11 n11 c11 (meetW a b) _ (rdO (r11.out.ext T)) e11.out (by have := e11.out; omega) hfM).mono ?_
  rintro e w21 ⟨rfl, hE⟩
  refine hK _ _ (T.trans (hE.mono T.size)) ?_
  clear hK K
  try simp only [Act.put, List.setIfInBounds_toArray, List.set_cons_zero, List.set_cons_succ]
  replace T := T.trans (hE.mono T.size)
  rw [← hNM.out]
  clear hE
  iterate 1
    apply mix_on rfl (wanted_is rfl rfl rfl rfl rfl)
    · intro W hW
      have hcW := (bcell hW).1
      go_simp
      try exact rfl
    simp only [Act.put, List.setIfInBounds_toArray, List.set_cons_zero, List.set_cons_succ]
  refine mix_won rfl (wanted_is rfl rfl rfl rfl rfl) (fun K hK => ?_)
  go_simp
  refine (count_any A13 n13 c13 (minusW b a) _ (rdO (r13.out.ext T)) e13.out (by have := e13.out; omega) hfQ).mono ?_
  rintro e w22 ⟨rfl, hE⟩
  refine hK _ _ (T.trans (hE.mono T.size)) ?_
  clear hK K
  try simp only [Act.put, List.setIfInBounds_toArray, List.set_cons_zero, List.set_cons_succ]
  replace T := T.trans (hE.mono T.size)
  rw [← hNQ.out]
  clear hE
  iterate 1
    apply mix_on rfl (wanted_is rfl rfl rfl rfl rfl)
    · intro W hW
      have hcW := (bcell hW).1
      go_simp
      try exact rfl
    simp only [Act.put, List.setIfInBounds_toArray, List.set_cons_zero, List.set_cons_succ]
  refine mix_won rfl (wanted_is rfl rfl rfl rfl rfl) (fun K hK => ?_)
  go_simp
  refine (count_any A10 n10 c10 (uni [a, b]) _ (rdO (r10.out.ext T)) e10.out (by have := e10.out; omega) hfA).mono ?_
  rintro e w23 ⟨rfl, hE⟩
  refine hK _ _ (T.trans (hE.mono T.size)) ?_
  clear hK K
  try simp only [Act.put, List.setIfInBounds_toArray, List.set_cons_zero, List.set_cons_succ]
  replace T := T.trans (hE.mono T.size)
  rw [← hNU.out]
  clear hE
  iterate 1
    apply mix_on rfl (wanted_is rfl rfl rfl rfl rfl)
    · intro W hW
      have hcW := (bcell hW).1
      go_simp
      try exact rfl
    simp only [Act.put, List.setIfInBounds_toArray, List.set_cons_zero, List.set_cons_succ]
  iterate 2
    apply mix_q rfl rfl
    · intro W hW
      have hcW := (bcell hW).1
      go_simp
      try exact rfl
    simp only [Act.put, List.setIfInBounds_toArray, List.set_cons_zero, List.set_cons_succ]
  iterate 2
    apply mix_on rfl (wanted_is rfl rfl rfl rfl rfl)
    · intro W hW
      have hcW := (bcell hW).1
      go_simp
      try exact rfl
    simp only [Act.put, List.setIfInBounds_toArray, List.set_cons_zero, List.set_cons_succ]
  refine mix_won rfl (wanted_is rfl rfl rfl rfl rfl) (fun K hK => ?_)
  go_simp
  refine (meet_any A12 A13 n12 c12 n13 c13 (minusW a b) (minusW b a) _ (rdO (r12.out.ext T)) e12.out (by have := e12.out; omega) hfP (rdO (r13.out.ext T)) e13.out (by have := e13.out; omega) hfQ).mono ?_
  rintro e w24 ⟨v, rfl, hO, hE⟩
  refine hK _ _ (T.trans (hE.mono T.size)) ?_
  clear hK K
  try simp only [Act.put, List.setIfInBounds_toArray, List.set_cons_zero, List.set_cons_succ]
  replace T := T.trans (hE.mono T.size)
  replace hO : Own wE 43 _ w24 v (meetW (minusW a b) (minusW b a)) := hO
  have hlz : (meetW (minusW a b) (minusW b a)).length ≤ 160 := meet_len 160 hlP hlQ
  obtain ⟨A20, c20, rfl, -, hc20, -⟩ := hO.rd
  obtain ⟨n20, e20⟩ : ∃ m, m = (List.length (meetW (minusW a b) (minusW b a))) := ⟨_, rfl⟩
  rw [← e20] at hc20 ⊢
  have r20 := hO.base_le (Nat.zero_le _)
  rw [← e20] at r20
  replace r20 := hide r20
  replace e20 := hide e20
  clear hO hE
  refine mix_won rfl (wanted_is rfl rfl rfl rfl rfl) (fun K hK => ?_)
  go_simp
  refine (count_any A20 n20 c20 (meetW (minusW a b) (minusW b a)) _ (rdO r20.out) e20.out (by have := e20.out; omega) (meet_fit hfP hfQ)).mono ?_
  rintro e w25 ⟨rfl, hE⟩
  refine hK _ _ (T.trans (hE.mono T.size)) ?_
  clear hK K
  try simp only [Act.put, List.setIfInBounds_toArray, List.set_cons_zero, List.set_cons_succ]
  replace T := T.trans (hE.mono T.size)
  rw [parts_none hfa hfb]
  clear hE r20 e20 hc20
  iterate 1
    apply mix_on rfl (wanted_is rfl rfl rfl rfl rfl)
    · intro W hW
      have hcW := (bcell hW).1
      go_simp
      try exact rfl
    simp only [Act.put, List.setIfInBounds_toArray, List.set_cons_zero, List.set_cons_succ]
  iterate 1
    apply mix_q rfl rfl
    · intro W hW
      have hcW := (bcell hW).1
      go_simp
      try exact rfl
    simp only [Act.put, List.setIfInBounds_toArray, List.set_cons_zero, List.set_cons_succ]
  refine mix_nil ?_
  go_upto_region 8 with fail
  have hc7' := X7.out.cell
  have hs7' := X7.out.lt
  have hc8' := X8.out.cell
  have hs8' := X8.out.lt
  replace T := T.drew
  refine wp_region_mix (fun W => Below w16.heap.size w16 W) [(0, true), (1, true), (2, false), (3, true), (4, true), (5, true), (6, true), (7, false), (8, true), (9, true), (10, true), (11, true), (12, true), (13, false), (14, true), (15, true), (16, true), (17, true), (18, true), (21, true), (19, false), (20, false), (22, false), (23, true), (24, true), (25, true), (26, true), (27, true), (29, true), (28, false), (30, false), (31, true), (32, true)] (by kernel_rfl) (by kernel_rfl) (by kernel_rfl) (by kernel_rfl) (fun _ _ d _ _ h => by cases d <;> exact h) ?_ ?_
  · exact T
  obtain ⟨wi, hwh⟩ : ∃ x, x = w25.drew := ⟨_, rfl⟩
  rw [← hwh] at T ⊢
  clear hwh
  iterate 2
    apply mix_q rfl rfl
    · intro W hW
      have hcW := (bcell hW).1
      go_simp
      try exact rfl
    simp only [Act.put, List.setIfInBounds_toArray, List.set_cons_zero, List.set_cons_succ]
  refine mix_w rfl rfl (fun K hK => ?_)
  go_simp
  refine (within_any A7 A10 n7 c7 n10 c10 a (uni [a, b]) _ (rdO (r7.out.ext T)) e7.out (by have := e7.out; omega) hfa (rdO (r10.out.ext T)) e10.out (by have := e10.out; omega) hfA).mono ?_
  rintro e w26 ⟨rfl, hE⟩
  refine hK _ _ (T.trans (hE.mono T.size)) ?_
  clear hK K
  try simp only [Act.put, List.setIfInBounds_toArray, List.set_cons_zero, List.set_cons_succ]
  replace T := T.trans (hE.mono T.size)
  rw [dec_nil (show trimW (joinL minusN (ofW a) (ofW (uni [a, b]))) = [] from in_all hfa hfb)]
  clear hE
  iterate 2
    apply mix_q rfl rfl
    · intro W hW
      have hcW := (bcell hW).1
      go_simp
      try exact rfl
    simp only [Act.put, List.setIfInBounds_toArray, List.set_cons_zero, List.set_cons_succ]
  iterate 2
    apply mix_on rfl (wanted_is rfl rfl rfl rfl rfl)
    · intro W hW
      have hcW := (bcell hW).1
      go_simp
      try exact rfl
    simp only [Act.put, List.setIfInBounds_toArray, List.set_cons_zero, List.set_cons_succ]
  refine mix_won rfl (wanted_is rfl rfl rfl rfl rfl) (fun K hK => ?_)
  go_simp
  refine (within_any A11 A7 n11 c11 n7 c7 (meetW a b) a _ (rdO (r11.out.ext T)) e11.out (by have := e11.out; omega) hfM (rdO (r7.out.ext T)) e7.out (by have := e7.out; omega) hfa).mono ?_
  rintro e w27 ⟨rfl, hE⟩
  refine hK _ _ (T.trans (hE.mono T.size)) ?_
  clear hK K
  try simp only [Act.put, List.setIfInBounds_toArray, List.set_cons_zero, List.set_cons_succ]
  replace T := T.trans (hE.mono T.size)
  rw [dec_nil (show trimW (joinL minusN (ofW (meetW a b)) (ofW a)) = [] from in_meet hfa hfb)]
  clear hE
  iterate 1
    apply mix_on rfl (wanted_is rfl rfl rfl rfl rfl)
    · intro W hW
      have hcW := (bcell hW).1
      go_simp
      try exact rfl
    simp only [Act.put, List.setIfInBounds_toArray, List.set_cons_zero, List.set_cons_succ]
  iterate 2
    apply mix_q rfl rfl
    · intro W hW
      have hcW := (bcell hW).1
      go_simp
      try exact rfl
    simp only [Act.put, List.setIfInBounds_toArray, List.set_cons_zero, List.set_cons_succ]
  iterate 2
    apply mix_on rfl (wanted_is rfl rfl rfl rfl rfl)
    · intro W hW
      have hcW := (bcell hW).1
      go_simp
      try exact rfl
    simp only [Act.put, List.setIfInBounds_toArray, List.set_cons_zero, List.set_cons_succ]
  refine mix_won rfl (wanted_is rfl rfl rfl rfl rfl) (fun K hK => ?_)
  go_simp
  refine (within_any A12 A7 n12 c12 n7 c7 (minusW a b) a _ (rdO (r12.out.ext T)) e12.out (by have := e12.out; omega) hfP (rdO (r7.out.ext T)) e7.out (by have := e7.out; omega) hfa).mono ?_
  rintro e w28 ⟨rfl, hE⟩
  refine hK _ _ (T.trans (hE.mono T.size)) ?_
  clear hK K
  try simp only [Act.put, List.setIfInBounds_toArray, List.set_cons_zero, List.set_cons_succ]
  replace T := T.trans (hE.mono T.size)
  rw [dec_nil (show trimW (joinL minusN (ofW (minusW a b)) (ofW a)) = [] from in_minus hfa hfb)]
  clear hE
  iterate 1
    apply mix_on rfl (wanted_is rfl rfl rfl rfl rfl)
    · intro W hW
      have hcW := (bcell hW).1
      go_simp
      try exact rfl
    simp only [Act.put, List.setIfInBounds_toArray, List.set_cons_zero, List.set_cons_succ]
  iterate 2
    apply mix_q rfl rfl
    · intro W hW
      have hcW := (bcell hW).1
      go_simp
      try exact rfl
    simp only [Act.put, List.setIfInBounds_toArray, List.set_cons_zero, List.set_cons_succ]
  iterate 3
    apply mix_on rfl (wanted_is rfl rfl rfl rfl rfl)
    · intro W hW
      have hcW := (bcell hW).1
      go_simp
      try exact rfl
    simp only [Act.put, List.setIfInBounds_toArray, List.set_cons_zero, List.set_cons_succ]
  refine mix_won rfl (wanted_is rfl rfl rfl rfl rfl) (fun K hK => ?_)
  go_simp
  have hE : Ext (w28) (World.alloc (w28) (.cells #[.slice A8 n8 c8, .slice A7 n7 c7] 24)) := (Below.refl _ _).alloc (Nat.le_refl _) _
  replace T := T.trans (hE.mono T.size)
  have hSR : SRow (World.alloc (w28) (.cells #[.slice A8 n8 c8, .slice A7 n7 c7] 24)) (some ⟨(World.heap (w28)).size, 0, none⟩) [((A8, n8, c8), b), ((A7, n7, c7), a)] :=
    srow (by simp) (cells_at (cs := [.slice A8 n8 c8, .slice A7 n7 c7]) rfl) (all2 (p := SOk _) (sok (r8.out.ext T) e8.out (by have := e8.out; omega) hfb) (sok (r7.out.ext T) e7.out (by have := e7.out; omega) hfa))
  refine hK _ _ T ?_
  clear hK K
  try simp only [Act.put, List.setIfInBounds_toArray, List.set_cons_zero, List.set_cons_succ]
  obtain ⟨w29, hwN⟩ : ∃ x, x = World.alloc (w28) (.cells #[.slice A8 n8 c8, .slice A7 n7 c7] 24) := ⟨_, rfl⟩
  rw [← hwN] at hSR T hE ⊢
  have hEk := hE
  clear hwN hE
  generalize (World.heap (w28)).size = g2 at *
  refine mix_won rfl (wanted_is rfl rfl rfl rfl rfl) (fun K hK => ?_)
  go_simp
  refine (union_any (some ⟨g2, 0, none⟩) 2 2 [((A8, n8, c8), b), ((A7, n7, c7), a)] _ hSR rfl (by omega)).mono ?_
  rintro e w30 ⟨v, rfl, hO, hE⟩
  refine hK _ _ (T.trans (hE.mono T.size)) ?_
  clear hK K
  try simp only [Act.put, List.setIfInBounds_toArray, List.set_cons_zero, List.set_cons_succ]
  replace T := T.trans (hE.mono T.size)
  rw [unionL_eq] at hO
  replace hO : Own wE 43 _ w30 v (uni [b, a]) := hO
  rw [uni_comm hfa hfb] at hO
  obtain ⟨A20, c20, rfl, -, hc20, -⟩ := hO.rd
  obtain ⟨n20, e20⟩ : ∃ m, m = (List.length (uni [a, b])) := ⟨_, rfl⟩
  rw [← e20] at hc20 ⊢
  have r20 := hO.base_le (Nat.zero_le _)
  rw [← e20] at r20
  replace r20 := hide r20
  replace e20 := hide e20
  clear hO hE hSR
  refine mix_won rfl (wanted_is rfl rfl rfl rfl rfl) (fun K hK => ?_)
  go_simp
  refine (same_any A20 A10 n20 c20 n10 c10 (uni [a, b]) (uni [a, b]) _ (rdO r20.out) e20.out (by have := e20.out; omega) hfA (rdO (r10.out.ext T)) e10.out (by have := e10.out; omega) hfA).mono ?_
  rintro e w31 ⟨rfl, hE⟩
  refine hK _ _ (T.trans (hE.mono T.size)) ?_
  clear hK K
  try simp only [Act.put, List.setIfInBounds_toArray, List.set_cons_zero, List.set_cons_succ]
  replace T := T.trans (hE.mono T.size)
  clear hE
  clear r20 e20 hc20
  iterate 1
    apply mix_on rfl (wanted_is rfl rfl rfl rfl rfl)
    · intro W hW
      have hcW := (bcell hW).1
      go_simp
      try exact rfl
    simp only [Act.put, List.setIfInBounds_toArray, List.set_cons_zero, List.set_cons_succ]
  iterate 2
    apply mix_q rfl rfl
    · intro W hW
      have hcW := (bcell hW).1
      go_simp
      try exact rfl
    simp only [Act.put, List.setIfInBounds_toArray, List.set_cons_zero, List.set_cons_succ]
  iterate 3
    apply mix_on rfl (wanted_is rfl rfl rfl rfl rfl)
    · intro W hW
      have hcW := (bcell hW).1
      go_simp
      try exact rfl
    simp only [Act.put, List.setIfInBounds_toArray, List.set_cons_zero, List.set_cons_succ]
  refine mix_won rfl (wanted_is rfl rfl rfl rfl rfl) (fun K hK => ?_)
  go_simp
  refine (meet_any A8 A7 n8 c8 n7 c7 b a _ (rdO (r8.out.ext T)) e8.out (by have := e8.out; omega) hfb (rdO (r7.out.ext T)) e7.out (by have := e7.out; omega) hfa).mono ?_
  rintro e w32 ⟨v, rfl, hO, hE⟩
  refine hK _ _ (T.trans (hE.mono T.size)) ?_
  clear hK K
  try simp only [Act.put, List.setIfInBounds_toArray, List.set_cons_zero, List.set_cons_succ]
  replace T := T.trans (hE.mono T.size)
  replace hO : Own wE 43 _ w32 v (meetW b a) := hO
  rw [meet_comm hfa hfb] at hO
  obtain ⟨A20, c20, rfl, -, hc20, -⟩ := hO.rd
  obtain ⟨n20, e20⟩ : ∃ m, m = (List.length (meetW a b)) := ⟨_, rfl⟩
  rw [← e20] at hc20 ⊢
  have r20 := hO.base_le (Nat.zero_le _)
  rw [← e20] at r20
  replace r20 := hide r20
  replace e20 := hide e20
  clear hO hE
  refine mix_won rfl (wanted_is rfl rfl rfl rfl rfl) (fun K hK => ?_)
  go_simp
  refine (same_any A20 A11 n20 c20 n11 c11 (meetW a b) (meetW a b) _ (rdO r20.out) e20.out (by have := e20.out; omega) hfM (rdO (r11.out.ext T)) e11.out (by have := e11.out; omega) hfM).mono ?_
  rintro e w33 ⟨rfl, hE⟩
  refine hK _ _ (T.trans (hE.mono T.size)) ?_
  clear hK K
  try simp only [Act.put, List.setIfInBounds_toArray, List.set_cons_zero, List.set_cons_succ]
  replace T := T.trans (hE.mono T.size)
  clear hE
  clear r20 e20 hc20
  iterate 1
    apply mix_on rfl (wanted_is rfl rfl rfl rfl rfl)
    · intro W hW
      have hcW := (bcell hW).1
      go_simp
      try exact rfl
    simp only [Act.put, List.setIfInBounds_toArray, List.set_cons_zero, List.set_cons_succ]
  iterate 1
    apply mix_q rfl rfl
    · intro W hW
      have hcW := (bcell hW).1
      go_simp
      try exact rfl
    simp only [Act.put, List.setIfInBounds_toArray, List.set_cons_zero, List.set_cons_succ]
  refine mix_nil ?_
  go_upto_region 10 with fail
  have hc9' := X9.out.cell
  have hs9' := X9.out.lt
  have hfBC : Fit (uni [b, c]) := uni_fit _ (all2 (p := Fit) hfb hfc)
  have hlBC : (uni [b, c]).length ≤ 160 := uni_len 160 _ (all2 (p := fun v : List Nat => v.length ≤ 160) hlb hlc)
  have hfMC : Fit (meetW a c) := meet_fit hfa hfc
  have hlMC : (meetW a c).length ≤ 160 := meet_len 160 hla hlc
  have hfD : Fit (meetW a (uni [b, c])) := meet_fit hfa hfBC
  have hlD : (meetW a (uni [b, c])).length ≤ 160 := meet_len 160 hla hlBC
  replace T := T.drew
  refine wp_region_mix (fun W => Below w16.heap.size w16 W) [(0, true), (1, true), (2, true), (6, true), (7, true), (8, true), (3, false), (4, false), (5, false), (9, false), (10, false), (11, false), (12, false), (13, true), (14, true), (15, true), (16, true), (17, true), (21, true), (22, true), (18, false), (19, false), (20, false), (23, false), (24, false), (25, true), (26, true)] (by kernel_rfl) (by kernel_rfl) (by kernel_rfl) (by kernel_rfl) (fun _ _ d _ _ h => by cases d <;> exact h) ?_ ?_
  · exact T
  obtain ⟨wj, hwh⟩ : ∃ x, x = w33.drew := ⟨_, rfl⟩
  rw [← hwh] at T ⊢
  clear hwh
  iterate 6
    apply mix_q rfl rfl
    · intro W hW
      have hcW := (bcell hW).1
      go_simp
      try exact rfl
    simp only [Act.put, List.setIfInBounds_toArray, List.set_cons_zero, List.set_cons_succ]
  refine mix_w rfl rfl (fun K hK => ?_)
  go_simp
  have hE : Ext (wj) (World.alloc (wj) (.cells #[.slice A8 n8 c8, .slice A9 n9 c9] 24)) := (Below.refl _ _).alloc (Nat.le_refl _) _
  replace T := T.trans (hE.mono T.size)
  have hSR : SRow (World.alloc (wj) (.cells #[.slice A8 n8 c8, .slice A9 n9 c9] 24)) (some ⟨(World.heap (wj)).size, 0, none⟩) [((A8, n8, c8), b), ((A9, n9, c9), c)] :=
    srow (by simp) (cells_at (cs := [.slice A8 n8 c8, .slice A9 n9 c9]) rfl) (all2 (p := SOk _) (sok (r8.out.ext T) e8.out (by have := e8.out; omega) hfb) (sok (r9.out.ext T) e9.out (by have := e9.out; omega) hfc))
  refine hK _ _ T ?_
  clear hK K
  try simp only [Act.put, List.setIfInBounds_toArray, List.set_cons_zero, List.set_cons_succ]
  obtain ⟨w34, hwN⟩ : ∃ x, x = World.alloc (wj) (.cells #[.slice A8 n8 c8, .slice A9 n9 c9] 24) := ⟨_, rfl⟩
  rw [← hwN] at hSR T hE ⊢
  have hEk := hE
  clear hwN hE
  generalize (World.heap (wj)).size = g3 at *
  refine mix_w rfl rfl (fun K hK => ?_)
  go_simp
  refine (union_any (some ⟨g3, 0, none⟩) 2 2 [((A8, n8, c8), b), ((A9, n9, c9), c)] _ hSR rfl (by omega)).mono ?_
  rintro e w35 ⟨v, rfl, hO, hE⟩
  refine hK _ _ (T.trans (hE.mono T.size)) ?_
  clear hK K
  try simp only [Act.put, List.setIfInBounds_toArray, List.set_cons_zero, List.set_cons_succ]
  replace T := T.trans (hE.mono T.size)
  rw [unionL_eq] at hO
  replace hO : Own wE 43 _ w35 v (uni [b, c]) := hO
  obtain ⟨A20, c20, rfl, -, hc20, -⟩ := hO.rd
  obtain ⟨n20, e20⟩ : ∃ m, m = (List.length (uni [b, c])) := ⟨_, rfl⟩
  rw [← e20] at hc20 ⊢
  have r20 := hO.base_le (Nat.zero_le _)
  rw [← e20] at r20
  replace r20 := hide r20
  replace e20 := hide e20
  clear hO hE hSR
  refine mix_w rfl rfl (fun K hK => ?_)
  go_simp
  refine (meet_any A7 A20 n7 c7 n20 c20 a (uni [b, c]) _ (rdO (r7.out.ext T)) e7.out (by have := e7.out; omega) hfa (rdO r20.out) e20.out (by have := e20.out; omega) hfBC).mono ?_
  rintro e w36 ⟨v, rfl, hO, hE⟩
  refine hK _ _ (T.trans (hE.mono T.size)) ?_
  clear hK K
  try simp only [Act.put, List.setIfInBounds_toArray, List.set_cons_zero, List.set_cons_succ]
  replace T := T.trans (hE.mono T.size)
  replace hO : Own wE 43 _ w36 v (meetW a (uni [b, c])) := hO
  obtain ⟨A21, c21, rfl, -, hc21, -⟩ := hO.rd
  obtain ⟨n21, e21⟩ : ∃ m, m = (List.length (meetW a (uni [b, c]))) := ⟨_, rfl⟩
  rw [← e21] at hc21 ⊢
  have r21 := hO.base_le (Nat.zero_le _)
  rw [← e21] at r21
  replace r21 := hide r21
  replace e21 := hide e21
  clear hO hE r20 e20 hc20
  refine mix_w rfl rfl (fun K hK => ?_)
  go_simp
  refine (meet_any A7 A9 n7 c7 n9 c9 a c _ (rdO (r7.out.ext T)) e7.out (by have := e7.out; omega) hfa (rdO (r9.out.ext T)) e9.out (by have := e9.out; omega) hfc).mono ?_
  rintro e w37 ⟨v, rfl, hO, hE⟩
  refine hK _ _ (T.trans (hE.mono T.size)) ?_
  clear hK K
  try simp only [Act.put, List.setIfInBounds_toArray, List.set_cons_zero, List.set_cons_succ]
  replace T := T.trans (hE.mono T.size)
  replace hO : Own wE 43 _ w37 v (meetW a c) := hO
  replace r21 := hide (r21.out.ext hE)
  obtain ⟨A22, c22, rfl, -, hc22, -⟩ := hO.rd
  obtain ⟨n22, e22⟩ : ∃ m, m = (List.length (meetW a c)) := ⟨_, rfl⟩
  rw [← e22] at hc22 ⊢
  have r22 := hO.base_le (Nat.zero_le _)
  rw [← e22] at r22
  replace r22 := hide r22
  replace e22 := hide e22
  clear hO hE
  have r21h := r21
  refine mix_w rfl rfl (fun K hK => ?_)
  go_simp
  have hE : Ext (w37) (World.alloc (w37) (.cells #[.slice A11 n11 c11, .slice A22 n22 c22] 24)) := (Below.refl _ _).alloc (Nat.le_refl _) _
  replace T := T.trans (hE.mono T.size)
  have hSR : SRow (World.alloc (w37) (.cells #[.slice A11 n11 c11, .slice A22 n22 c22] 24)) (some ⟨(World.heap (w37)).size, 0, none⟩) [((A11, n11, c11), (meetW a b)), ((A22, n22, c22), (meetW a c))] :=
    srow (by simp) (cells_at (cs := [.slice A11 n11 c11, .slice A22 n22 c22]) rfl) (all2 (p := SOk _) (sok (r11.out.ext T) e11.out (by have := e11.out; omega) hfM) (sok (r22.out.ext hE) e22.out (by have := e22.out; omega) hfMC))
  refine hK _ _ T ?_
  clear hK K
  try simp only [Act.put, List.setIfInBounds_toArray, List.set_cons_zero, List.set_cons_succ]
  obtain ⟨w38, hwN⟩ : ∃ x, x = World.alloc (w37) (.cells #[.slice A11 n11 c11, .slice A22 n22 c22] 24) := ⟨_, rfl⟩
  rw [← hwN] at hSR T hE ⊢
  have hEk := hE
  clear hwN hE
  generalize (World.heap (w37)).size = g4 at *
  replace r21 := hide (r21.out.ext hEk)
  refine mix_w rfl rfl (fun K hK => ?_)
  go_simp
  refine (union_any (some ⟨g4, 0, none⟩) 2 2 [((A11, n11, c11), meetW a b), ((A22, n22, c22), meetW a c)] _ hSR rfl (by omega)).mono ?_
  rintro e w39 ⟨v, rfl, hO, hE⟩
  refine hK _ _ (T.trans (hE.mono T.size)) ?_
  clear hK K
  try simp only [Act.put, List.setIfInBounds_toArray, List.set_cons_zero, List.set_cons_succ]
  replace T := T.trans (hE.mono T.size)
  rw [unionL_eq] at hO
  replace hO : Own wE 43 _ w39 v (uni [meetW a b, meetW a c]) := hO
  rw [← dist hfa hfb hfc] at hO
  replace r21 := hide (r21.out.ext hE)
  obtain ⟨A23, c23, rfl, -, hc23, -⟩ := hO.rd
  obtain ⟨n23, e23⟩ : ∃ m, m = (List.length (meetW a (uni [b, c]))) := ⟨_, rfl⟩
  rw [← e23] at hc23 ⊢
  have r23 := hO.base_le (Nat.zero_le _)
  rw [← e23] at r23
  replace r23 := hide r23
  replace e23 := hide e23
  clear hO hE hSR
  refine mix_w rfl rfl (fun K hK => ?_)
  go_simp
  refine (same_any A21 A23 n21 c21 n23 c23 (meetW a (uni [b, c])) (meetW a (uni [b, c])) _ (rdO r21.out) e21.out (by have := e21.out; omega) hfD (rdO r23.out) e23.out (by have := e23.out; omega) hfD).mono ?_
  rintro e w40 ⟨rfl, hE⟩
  refine hK _ _ (T.trans (hE.mono T.size)) ?_
  clear hK K
  try simp only [Act.put, List.setIfInBounds_toArray, List.set_cons_zero, List.set_cons_succ]
  replace T := T.trans (hE.mono T.size)
  clear hE
  clear r21 e21 hc21 r22 e22 hc22 r23 e23 hc23
  iterate 2
    apply mix_q rfl rfl
    · intro W hW
      have hcW := (bcell hW).1
      go_simp
      try exact rfl
    simp only [Act.put, List.setIfInBounds_toArray, List.set_cons_zero, List.set_cons_succ]
  iterate 5
    apply mix_on rfl (wanted_is rfl rfl rfl rfl rfl)
    · intro W hW
      have hcW := (bcell hW).1
      go_simp
      try exact rfl
    simp only [Act.put, List.setIfInBounds_toArray, List.set_cons_zero, List.set_cons_succ]
  have hfE : Fit (minusW a (uni [b, c])) := minusW_fit hfa hfBC
  have hlE : (minusW a (uni [b, c])).length ≤ 160 := minusW_len 160 hla hlBC
  refine mix_won rfl (wanted_is rfl rfl rfl rfl rfl) (fun K hK => ?_)
  go_simp
  have hE : Ext (w40) (World.alloc (w40) (.cells #[.slice A8 n8 c8, .slice A9 n9 c9] 24)) := (Below.refl _ _).alloc (Nat.le_refl _) _
  replace T := T.trans (hE.mono T.size)
  have hSR : SRow (World.alloc (w40) (.cells #[.slice A8 n8 c8, .slice A9 n9 c9] 24)) (some ⟨(World.heap (w40)).size, 0, none⟩) [((A8, n8, c8), b), ((A9, n9, c9), c)] :=
    srow (by simp) (cells_at (cs := [.slice A8 n8 c8, .slice A9 n9 c9]) rfl) (all2 (p := SOk _) (sok (r8.out.ext T) e8.out (by have := e8.out; omega) hfb) (sok (r9.out.ext T) e9.out (by have := e9.out; omega) hfc))
  refine hK _ _ T ?_
  clear hK K
  try simp only [Act.put, List.setIfInBounds_toArray, List.set_cons_zero, List.set_cons_succ]
  obtain ⟨w41, hwN⟩ : ∃ x, x = World.alloc (w40) (.cells #[.slice A8 n8 c8, .slice A9 n9 c9] 24) := ⟨_, rfl⟩
  rw [← hwN] at hSR T hE ⊢
  have hEk := hE
  clear hwN hE
  generalize (World.heap (w40)).size = g5 at *
  refine mix_won rfl (wanted_is rfl rfl rfl rfl rfl) (fun K hK => ?_)
  go_simp
  refine (union_any (some ⟨g5, 0, none⟩) 2 2 [((A8, n8, c8), b), ((A9, n9, c9), c)] _ hSR rfl (by omega)).mono ?_
  rintro e w42 ⟨v, rfl, hO, hE⟩
  refine hK _ _ (T.trans (hE.mono T.size)) ?_
  clear hK K
  try simp only [Act.put, List.setIfInBounds_toArray, List.set_cons_zero, List.set_cons_succ]
  replace T := T.trans (hE.mono T.size)
  rw [unionL_eq] at hO
  replace hO : Own wE 43 _ w42 v (uni [b, c]) := hO
  obtain ⟨A20, c20, rfl, -, hc20, -⟩ := hO.rd
  obtain ⟨n20, e20⟩ : ∃ m, m = (List.length (uni [b, c])) := ⟨_, rfl⟩
  rw [← e20] at hc20 ⊢
  have r20 := hO.base_le (Nat.zero_le _)
  rw [← e20] at r20
  replace r20 := hide r20
  replace e20 := hide e20
  clear hO hE hSR
  refine mix_won rfl (wanted_is rfl rfl rfl rfl rfl) (fun K hK => ?_)
  go_simp
  refine (minusS_any A7 A20 n7 c7 n20 c20 a (uni [b, c]) _ (rdO (r7.out.ext T)) e7.out (by have := e7.out; omega) hfa (rdO r20.out) e20.out (by have := e20.out; omega) hfBC).mono ?_
  rintro e w43 ⟨v, rfl, hO, hE⟩
  refine hK _ _ (T.trans (hE.mono T.size)) ?_
  clear hK K
  try simp only [Act.put, List.setIfInBounds_toArray, List.set_cons_zero, List.set_cons_succ]
  replace T := T.trans (hE.mono T.size)
  replace hO : Own wE 43 _ w43 v (minusW a (uni [b, c])) := hO
  obtain ⟨A21, c21, rfl, -, hc21, -⟩ := hO.rd
  obtain ⟨n21, e21⟩ : ∃ m, m = (List.length (minusW a (uni [b, c]))) := ⟨_, rfl⟩
  rw [← e21] at hc21 ⊢
  have r21 := hO.base_le (Nat.zero_le _)
  rw [← e21] at r21
  replace r21 := hide r21
  replace e21 := hide e21
  clear hO hE r20 e20 hc20
  refine mix_won rfl (wanted_is rfl rfl rfl rfl rfl) (fun K hK => ?_)
  go_simp
  refine (minusS_any A12 A9 n12 c12 n9 c9 (minusW a b) c _ (rdO (r12.out.ext T)) e12.out (by have := e12.out; omega) hfP (rdO (r9.out.ext T)) e9.out (by have := e9.out; omega) hfc).mono ?_
  rintro e w44 ⟨v, rfl, hO, hE⟩
  refine hK _ _ (T.trans (hE.mono T.size)) ?_
  clear hK K
  try simp only [Act.put, List.setIfInBounds_toArray, List.set_cons_zero, List.set_cons_succ]
  replace T := T.trans (hE.mono T.size)
  replace hO : Own wE 43 _ w44 v (minusW (minusW a b) c) := hO
  rw [← minus_uni hfa hfb hfc] at hO
  replace r21 := hide (r21.out.ext hE)
  obtain ⟨A22, c22, rfl, -, hc22, -⟩ := hO.rd
  obtain ⟨n22, e22⟩ : ∃ m, m = (List.length (minusW a (uni [b, c]))) := ⟨_, rfl⟩
  rw [← e22] at hc22 ⊢
  have r22 := hO.base_le (Nat.zero_le _)
  rw [← e22] at r22
  replace r22 := hide r22
  replace e22 := hide e22
  clear hO hE
  refine mix_won rfl (wanted_is rfl rfl rfl rfl rfl) (fun K hK => ?_)
  go_simp
  refine (same_any A21 A22 n21 c21 n22 c22 (minusW a (uni [b, c])) (minusW a (uni [b, c])) _ (rdO r21.out) e21.out (by have := e21.out; omega) hfE (rdO r22.out) e22.out (by have := e22.out; omega) hfE).mono ?_
  rintro e w45 ⟨rfl, hE⟩
  refine hK _ _ (T.trans (hE.mono T.size)) ?_
  clear hK K
  try simp only [Act.put, List.setIfInBounds_toArray, List.set_cons_zero, List.set_cons_succ]
  replace T := T.trans (hE.mono T.size)
  clear hE
  clear r21 e21 hc21 r22 e22 hc22
  iterate 1
    apply mix_on rfl (wanted_is rfl rfl rfl rfl rfl)
    · intro W hW
      have hcW := (bcell hW).1
      go_simp
      try exact rfl
    simp only [Act.put, List.setIfInBounds_toArray, List.set_cons_zero, List.set_cons_succ]
  iterate 1
    apply mix_q rfl rfl
    · intro W hW
      have hcW := (bcell hW).1
      go_simp
      try exact rfl
    simp only [Act.put, List.setIfInBounds_toArray, List.set_cons_zero, List.set_cons_succ]
  refine mix_nil ?_
  go_upto_region 12 with fail
  have hbs := both_same hfa hfb
  replace T := T.drew
  refine wp_region_mix (fun W => Below w16.heap.size w16 W) [(0, true), (1, true), (8, true), (9, true), (2, false), (3, true), (4, true), (5, true), (6, false), (7, true), (10, false), (11, true), (12, true)] (by kernel_rfl) (by kernel_rfl) (by kernel_rfl) (by kernel_rfl) (fun _ _ d _ _ h => by cases d <;> exact h) ?_ ?_
  · exact T
  obtain ⟨wk, hwh⟩ : ∃ x, x = w45.drew := ⟨_, rfl⟩
  rw [← hwh] at T ⊢
  clear hwh
  iterate 4
    apply mix_q rfl rfl
    · intro W hW
      have hcW := (bcell hW).1
      go_simp
      try exact rfl
    simp only [Act.put, List.setIfInBounds_toArray, List.set_cons_zero, List.set_cons_succ]
  obtain ⟨dp, hdp⟩ : ∃ x, x = decide (minusW a b = []) := ⟨_, rfl⟩
  obtain ⟨dq, hdq⟩ : ∃ x, x = decide (minusW b a = []) := ⟨_, rfl⟩
  obtain ⟨ds, hds⟩ : ∃ x, x = decide (ofW a = ofW b) := ⟨_, rfl⟩
  rw [← hdp, ← hdq, ← hds] at hbs
  replace hbs := hide hbs
  replace hdp := hide hdp
  replace hdq := hide hdq
  replace hds := hide hds
  refine mix_w rfl rfl (fun K hK => ?_)
  go_simp
  refine (within_any A7 A8 n7 c7 n8 c8 a b _ (rdO (r7.out.ext T)) e7.out (by have := e7.out; omega) hfa (rdO (r8.out.ext T)) e8.out (by have := e8.out; omega) hfb).mono ?_
  rintro e w46 ⟨rfl, hE⟩
  refine hK _ _ (T.trans (hE.mono T.size)) ?_
  clear hK K
  try simp only [Act.put, List.setIfInBounds_toArray, List.set_cons_zero, List.set_cons_succ]
  replace T := T.trans (hE.mono T.size)
  rw [show decide (trimW (joinL minusN (ofW a) (ofW b)) = []) = dp from hdp.out.symm]
  clear hE
  iterate 1
    apply mix_q rfl rfl
    · intro W hW
      have hcW := (bcell hW).1
      go_simp
      try exact rfl
    simp only [Act.put, List.setIfInBounds_toArray, List.set_cons_zero, List.set_cons_succ]
  cases dp with
  | false =>
    iterate 2
      refine mix_off rfl (wanted_is rfl rfl rfl rfl rfl) ?_
      simp only [Act.put, List.setIfInBounds_toArray, List.set_cons_zero, List.set_cons_succ]
    refine mix_woff rfl (wanted_is rfl rfl rfl rfl rfl) T ?_
    try simp only [Act.put, List.setIfInBounds_toArray, List.set_cons_zero, List.set_cons_succ]
    iterate 1
      apply mix_q rfl rfl
      · intro W hW
        have hcW := (bcell hW).1
        go_simp
        try exact rfl
      simp only [Act.put, List.setIfInBounds_toArray, List.set_cons_zero, List.set_cons_succ]
    refine mix_w rfl rfl (fun K hK => ?_)
    go_simp
    refine (same_any A7 A8 n7 c7 n8 c8 a b _ (rdO (r7.out.ext T)) e7.out (by have := e7.out; omega) hfa (rdO (r8.out.ext T)) e8.out (by have := e8.out; omega) hfb).mono ?_
    rintro e w48 ⟨rfl, hE⟩
    refine hK _ _ (T.trans (hE.mono T.size)) ?_
    clear hK K
    try simp only [Act.put, List.setIfInBounds_toArray, List.set_cons_zero, List.set_cons_succ]
    replace T := T.trans (hE.mono T.size)
    clear hE
    rw [← hds.out]
    obtain rfl : ds = false := hbs.out.symm
    iterate 2
      apply mix_q rfl rfl
      · intro W hW
        have hcW := (bcell hW).1
        go_simp
        try exact rfl
      simp only [Act.put, List.setIfInBounds_toArray, List.set_cons_zero, List.set_cons_succ]
    refine mix_nil ?_
    go_wp2
    go_ret
    exact ⟨rfl, hBw.out.trans (T.mono hBw.out.size)⟩
  | true =>
    iterate 2
      apply mix_on rfl (wanted_is rfl rfl rfl rfl rfl)
      · intro W hW
        have hcW := (bcell hW).1
        go_simp
        try exact rfl
      simp only [Act.put, List.setIfInBounds_toArray, List.set_cons_zero, List.set_cons_succ]
    refine mix_won rfl (wanted_is rfl rfl rfl rfl rfl) (fun K hK => ?_)
    go_simp
    refine (within_any A8 A7 n8 c8 n7 c7 b a _ (rdO (r8.out.ext T)) e8.out (by have := e8.out; omega) hfb (rdO (r7.out.ext T)) e7.out (by have := e7.out; omega) hfa).mono ?_
    rintro e w47 ⟨rfl, hE⟩
    refine hK _ _ (T.trans (hE.mono T.size)) ?_
    clear hK K
    try simp only [Act.put, List.setIfInBounds_toArray, List.set_cons_zero, List.set_cons_succ]
    replace T := T.trans (hE.mono T.size)
    rw [show decide (trimW (joinL minusN (ofW b) (ofW a)) = []) = dq from hdq.out.symm]
    clear hE
    iterate 1
      apply mix_q rfl rfl
      · intro W hW
        have hcW := (bcell hW).1
        go_simp
        try exact rfl
      simp only [Act.put, List.setIfInBounds_toArray, List.set_cons_zero, List.set_cons_succ]
    refine mix_w rfl rfl (fun K hK => ?_)
    go_simp
    refine (same_any A7 A8 n7 c7 n8 c8 a b _ (rdO (r7.out.ext T)) e7.out (by have := e7.out; omega) hfa (rdO (r8.out.ext T)) e8.out (by have := e8.out; omega) hfb).mono ?_
    rintro e w48 ⟨rfl, hE⟩
    refine hK _ _ (T.trans (hE.mono T.size)) ?_
    clear hK K
    try simp only [Act.put, List.setIfInBounds_toArray, List.set_cons_zero, List.set_cons_succ]
    replace T := T.trans (hE.mono T.size)
    clear hE
    rw [← hds.out]
    obtain rfl : dq = ds := by simpa using hbs.out
    cases dq
    all_goals
      iterate 2
        apply mix_q rfl rfl
        · intro W hW
          have hcW := (bcell hW).1
          go_simp
          try exact rfl
        simp only [Act.put, List.setIfInBounds_toArray, List.set_cons_zero, List.set_cons_succ]
      refine mix_nil ?_
      go_wp2
      go_ret
      exact ⟨rfl, hBw.out.trans (T.mono hBw.out.size)⟩
end Go.Proofs.YtkiklbngfocljaaDoor
