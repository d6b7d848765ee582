/- BitsSets: the walk. -/
import Derived.Test.YtkiklbngfocljaaDoorBitYP
import Derived.Test.YtkiklbngfocljaaDoorBitW
import Derived.Test.YtkiklbngfocljaaDoorFlt
namespace Go.Proofs.YtkiklbngfocljaaDoor
open Go.RowKit

def Apart (v u : Value) : Prop := ∀ g, v.ownBlock = some g → u.ownBlock ≠ some g
theorem Apart.symm {v u : Value} (h : Apart v u) : Apart u v := fun g h1 h2 => h g h2 h1
theorem apart_new {α β : Type} {E : El α} {E' : El β} {e e' : TypeId} {b b' : Nat} {w w' : World} {v u : Value} {xs : List α} {ys : List β} (h : Own E e b w v xs) (h' : Own E' e' b' w' u ys) (hb : w.heap.size ≤ b') : Apart v u := by
  intro g h1 h2
  have := (h.lt g h1).2
  have := (h'.lt g h2).1
  omega
theorem index_s0 (w : World) (A1 A2 A3 A4 : Option Addr) (n1 n2 n3 n4 c1 c2 c3 c4 : Nat) : (Instr.index 56 (.agg #[.slice A1 n1 c1, .slice A2 n2 c2, .slice A3 n3 c3, .slice A4 n4 c4]) (.int .i64 0)).run Tryd.prog w = .ok (.agg #[.slice A1 n1 c1]) w := by kernel_rfl
theorem index_s1 (w : World) (A1 A2 A3 A4 : Option Addr) (n1 n2 n3 n4 c1 c2 c3 c4 : Nat) : (Instr.index 56 (.agg #[.slice A1 n1 c1, .slice A2 n2 c2, .slice A3 n3 c3, .slice A4 n4 c4]) (.int .i64 1)).run Tryd.prog w = .ok (.agg #[.slice A2 n2 c2]) w := by kernel_rfl
theorem index_s2 (w : World) (A1 A2 A3 A4 : Option Addr) (n1 n2 n3 n4 c1 c2 c3 c4 : Nat) : (Instr.index 56 (.agg #[.slice A1 n1 c1, .slice A2 n2 c2, .slice A3 n3 c3, .slice A4 n4 c4]) (.int .i64 2)).run Tryd.prog w = .ok (.agg #[.slice A3 n3 c3]) w := by kernel_rfl
theorem index_s3 (w : World) (A1 A2 A3 A4 : Option Addr) (n1 n2 n3 n4 c1 c2 c3 c4 : Nat) : (Instr.index 56 (.agg #[.slice A1 n1 c1, .slice A2 n2 c2, .slice A3 n3 c3, .slice A4 n4 c4]) (.int .i64 3)).run Tryd.prog w = .ok (.agg #[.slice A4 n4 c4]) w := by kernel_rfl
set_option maxRecDepth 100000 in
set_option maxHeartbeats 8000000 in
theorem bitsSets_any (A1 A2 A3 : Option Addr) (n1 c1 n2 c2 n3 c3 : Nat) (xs ys zs : List Nat) (w : World) (hn1 : n1 = xs.length) (hc1 : n1 ≤ c1) (h1 : Rd wE w.heap.size w A1 xs) (hfx : Fit xs)
    (hn2 : n2 = ys.length) (hc2 : n2 ≤ c2) (h2 : Rd wE w.heap.size w A2 ys) (hfy : Fit ys) (hn3 : n3 = zs.length) (hc3 : n3 ≤ c3) (h3 : Rd wE w.heap.size w A3 zs) (hfz : Fit zs) (hL : LaidT w) :
    Calls Tryd.prog 5 #[.agg #[.slice A1 n1 c1], .agg #[.slice A2 n2 c2], .agg #[.slice A3 n3 c3]] w fun e w' => e = .returned (.bool true) ∧ Ext w w' := by
  replace h1 := hide h1
  replace hn1 := hide hn1
  replace h2 := hide h2
  replace hn2 := hide hn2
  replace h3 := hide h3
  replace hn3 := hide hn3
  replace hL := hide hL
  go_enter Tryd.func5, Tryd.ntmps5
  go_upto_region 1 with fail
  obtain ⟨w0, hw0⟩ : ∃ w0, w0 = ((w.alloc (.cells #[.slice A1 n1 c1] 24)).alloc (.cells #[.slice A2 n2 c2] 24)).alloc (.cells #[.slice A3 n3 c3] 24) := ⟨_, rfl⟩
  rw [← hw0]
  have hE0 : Ext w w0 := by rw [hw0]; exact (((Below.refl _ _).alloc (Nat.le_refl _) _).alloc (by simp) _).alloc (by simp; omega) _
  have x3 : Hid (Box w0 w.heap.size 24 (.slice A1 n1 c1)) := hide (by rw [hw0]; exact ((Box.new w _ _).alloc _).alloc _)
  have x4 : Hid (Box w0 (w.heap.size + 1) 24 (.slice A2 n2 c2)) := hide (by
    rw [hw0]
    have := Box.new (w.alloc (.cells #[.slice A1 n1 c1] 24)) 24 (.slice A2 n2 c2)
    rw [World.size_alloc] at this
    exact this.alloc _)
  have x5 : Hid (Box w0 (w.heap.size + 1 + 1) 24 (.slice A3 n3 c3)) := hide (by
    rw [hw0]
    have := Box.new ((w.alloc (.cells #[.slice A1 n1 c1] 24)).alloc (.cells #[.slice A2 n2 c2] 24)) 24 (.slice A3 n3 c3)
    rw [World.size_alloc, World.size_alloc] at this
    exact this)
  clear hw0
  obtain ⟨p3, hp3⟩ : ∃ b, b = w.heap.size := ⟨_, rfl⟩
  rw [← hp3] at x3 x4 x5 ⊢
  obtain ⟨p4, hp4⟩ : ∃ b, b = p3 + 1 := ⟨_, rfl⟩
  rw [← hp4] at x4 x5 ⊢
  obtain ⟨p5, hp5⟩ : ∃ b, b = p4 + 1 := ⟨_, rfl⟩
  rw [← hp5] at x5 ⊢
  clear hp3 hp4 hp5
  go_wp2_with fail
  refine (wakes_any _ (hL.out.ext hE0)).mono ?_
  rintro e w1 ⟨rfl, hE1⟩
  replace x3 := hide (x3.out.ext hE1)
  replace x4 := hide (x4.out.ext hE1)
  replace x5 := hide (x5.out.ext hE1)
  have hB := hide (hE0.trans (hE1.mono hE0.size))
  replace h1 := hide (h1.out.ext hB.out)
  replace h2 := hide (h2.out.ext hB.out)
  replace h3 := hide (h3.out.ext hB.out)
  replace hL := hide (hL.out.ext hB.out)
  clear hE0 hE1
  have hc3' := x3.out.cell
  have hs3' := x3.out.lt
  have hc4' := x4.out.cell
  have hs4' := x4.out.lt
  have hc5' := x5.out.cell
  have hs5' := x5.out.lt
  go_upto_region 3 with fail
  refine wp_region_flt [(some 7, 6), (some 8, 7), (some 9, 8)] (fun _ => .cells #[.slice none 0 0] 24) [(0, true), (2, true), (4, true), (1, false), (3, false), (5, false)] [(9, false), (10, false), (11, false)] (fun _ => undef) (by kernel_rfl) (by kernel_rfl) (by kernel_rfl) (by kernel_rfl) (by kernel_rfl) (fun _ _ d _ _ h => by cases d <;> exact h) ?_ rfl ?_
  · refine floats_of (by kernel_rfl) ?_ (by decide) (by decide) (by decide)
    intro p hp
    simp only [List.mem_cons, List.not_mem_nil, or_false] at hp
    rcases hp with rfl | rfl | rfl
    all_goals
      intro K a w h
      refine flt_lay rfl rfl ?_
      go_simp
      exact h
  obtain ⟨wd, hwd⟩ : ∃ x, x = w1.drew := ⟨_, rfl⟩
  rw [← hwd]
  have hEd : Ext w1 wd := by rw [hwd]; exact (Below.refl _ _).drew
  clear hwd
  replace hc3' := (x3.out.ext hEd).cell
  replace hs3' := (x3.out.ext hEd).lt
  replace hc4' := (x4.out.ext hEd).cell
  replace hs4' := (x4.out.ext hEd).lt
  replace hc5' := (x5.out.ext hEd).cell
  replace hs5' := (x5.out.ext hEd).lt
  have q1 := h1
  have q2 := h2
  have q3 := h3
  have hB1 := hB
  have hEd1 := hide hEd
  replace h1 := hide (h1.out.ext hEd)
  replace h2 := hide (h2.out.ext hEd)
  replace h3 := hide (h3.out.ext hEd)
  replace hB := hide (hB.out.trans (hEd.mono hB.out.size))
  clear hL
  clear hEd
  have T : Ext wd wd := Below.refl _ _
  iterate 3
    apply flt_q rfl rfl
    · intro x W hW
      have hcW : ∀ (b o : Nat), b < (World.heap wd).size → W.cell? ⟨b, o, none⟩ = World.cell? wd ⟨b, o, none⟩ := (bcell hW).1
      simp only [puts, Act.put, List.setIfInBounds_toArray, List.set_cons_zero, List.set_cons_succ]
      go_simp
      try exact rfl
    simp only [Act.put, List.setIfInBounds_toArray, List.set_cons_zero, List.set_cons_succ]
  have hfa : Fit (xs.take 160) := fun x hx => hfx x (List.mem_of_mem_take hx)
  have hfb : Fit (ys.take 160) := fun x hx => hfy x (List.mem_of_mem_take hx)
  have hfc : Fit (zs.take 160) := fun x hx => hfz x (List.mem_of_mem_take hx)
  have hla : (xs.take 160).length ≤ 160 := by rw [List.length_take]; omega
  have hlb : (ys.take 160).length ≤ 160 := by rw [List.length_take]; omega
  have hlc : (zs.take 160).length ≤ 160 := by rw [List.length_take]; omega
  have ⟨a, ha⟩ : ∃ a, a = xs.take 160 := ⟨_, rfl⟩
  have ⟨b, hb⟩ : ∃ b, b = ys.take 160 := ⟨_, rfl⟩
  have ⟨c, hc⟩ : ∃ c, c = zs.take 160 := ⟨_, rfl⟩
  rw [← ha] at hfa hla
  rw [← hb] at hfb hlb
  rw [← hc] at hfc hlc
  refine flt_w rfl rfl fun W x hE K hK => ?_
  simp only [puts, Act.put, List.setIfInBounds_toArray, List.set_cons_zero, List.set_cons_succ]
  go_simp
  replace T := T.trans (hE.mono T.size)
  refine (own_any A1 n1 c1 xs _ (h1.out.ext T) hn1.out hc1).mono ?_
  rintro e w2 ⟨v, rfl, hO, hE2⟩
  refine hK _ _ hE2 (by simp only [puts, Act.put, List.setIfInBounds_toArray, List.set_cons_zero, List.set_cons_succ]) ?_
  clear hK K
  replace T := T.trans (hE2.mono T.size)
  try simp only [Act.put, List.setIfInBounds_toArray, List.set_cons_zero, List.set_cons_succ]
  rw [← ha] at hO
  obtain ⟨A7, c7, rfl, -, hc7, -⟩ := hO.rd
  obtain ⟨n7, e7⟩ : ∃ m, m = (List.length a) := ⟨_, rfl⟩
  rw [← e7] at hc7 ⊢
  have r7 := hO.base_le (Nat.zero_le _)
  rw [← e7] at r7
  replace r7 := hide r7
  replace e7 := hide e7
  clear hO hE hE2
  refine flt_w rfl rfl fun W x hE K hK => ?_
  simp only [puts, Act.put, List.setIfInBounds_toArray, List.set_cons_zero, List.set_cons_succ]
  go_simp
  replace T := T.trans (hE.mono T.size)
  refine (own_any A2 n2 c2 ys _ (h2.out.ext T) hn2.out hc2).mono ?_
  rintro e w3 ⟨v, rfl, hO, hE2⟩
  refine hK _ _ hE2 (by simp only [puts, Act.put, List.setIfInBounds_toArray, List.set_cons_zero, List.set_cons_succ]) ?_
  clear hK K
  replace T := T.trans (hE2.mono T.size)
  try simp only [Act.put, List.setIfInBounds_toArray, List.set_cons_zero, List.set_cons_succ]
  rw [← hb] at hO
  replace r7 := hide ((r7.out.ext hE).ext hE2)
  obtain ⟨A8, c8, rfl, -, hc8, -⟩ := hO.rd
  obtain ⟨n8, e8⟩ : ∃ m, m = (List.length b) := ⟨_, rfl⟩
  rw [← e8] at hc8 ⊢
  have r8 := hO.base_le (Nat.zero_le _)
  rw [← e8] at r8
  replace r8 := hide r8
  replace e8 := hide e8
  clear hO hE hE2
  refine flt_w rfl rfl fun W x hE K hK => ?_
  simp only [puts, Act.put, List.setIfInBounds_toArray, List.set_cons_zero, List.set_cons_succ]
  go_simp
  replace T := T.trans (hE.mono T.size)
  refine (own_any A3 n3 c3 zs _ (h3.out.ext T) hn3.out hc3).mono ?_
  rintro e w4 ⟨v, rfl, hO, hE2⟩
  refine hK _ _ hE2 (by simp only [puts, Act.put, List.setIfInBounds_toArray, List.set_cons_zero, List.set_cons_succ]) ?_
  clear hK K
  replace T := T.trans (hE2.mono T.size)
  try simp only [Act.put, List.setIfInBounds_toArray, List.set_cons_zero, List.set_cons_succ]
  rw [← hc] at hO
  replace r7 := hide ((r7.out.ext hE).ext hE2)
  replace r8 := hide ((r8.out.ext hE).ext hE2)
  obtain ⟨A9, c9, rfl, -, hc9, -⟩ := hO.rd
  obtain ⟨n9, e9⟩ : ∃ m, m = (List.length c) := ⟨_, rfl⟩
  rw [← e9] at hc9 ⊢
  have r9 := hO.base_le (Nat.zero_le _)
  rw [← e9] at r9
  replace r9 := hide r9
  replace e9 := hide e9
  clear hE hE2
  refine flt_end fun W x hE hA => ?_
  simp only [puts, Act.put, List.setIfInBounds_toArray, List.set_cons_zero, List.set_cons_succ]
  obtain ⟨p7, e1, X7, l7⟩ := hA.1 6 (by simp)
  obtain ⟨p8, e2, X8, l8⟩ := hA.1 7 (by simp)
  obtain ⟨p9, e3, X9, l9⟩ := hA.1 8 (by simp)
  have d78 : p7 ≠ p8 := fun h => hA.2 6 (by simp) 7 (by simp) (by decide) (by rw [e1, e2, h])
  have d79 : p7 ≠ p9 := fun h => hA.2 6 (by simp) 8 (by simp) (by decide) (by rw [e1, e3, h])
  have d89 : p8 ≠ p9 := fun h => hA.2 7 (by simp) 8 (by simp) (by decide) (by rw [e2, e3, h])
  rw [e1, e2, e3]
  replace X7 : Hid (Box W p7 24 (.slice none 0 0)) := hide X7
  replace X8 : Hid (Box W p8 24 (.slice none 0 0)) := hide X8
  replace X9 : Hid (Box W p9 24 (.slice none 0 0)) := hide X9
  replace r7 := hide (r7.out.ext hE)
  replace r8 := hide (r8.out.ext hE)
  replace r9 := hide (r9.out.ext hE)
  replace T := T.trans (hE.mono T.size)
  replace l7 : wd.heap.size ≤ p7 := l7
  replace l8 : wd.heap.size ≤ p8 := l8
  replace l9 : wd.heap.size ≤ p9 := l9
  clear hA hE e1 e2 e3
  have hcb := X7.out.cell
  have hfb := X7.out.free
  have hsb := X7.out.lt
  refine mix_w rfl rfl (fun K hK => ?_)
  go_simp
  refine hK _ _ ?_ ?_
  · exact T.setCell (p := ⟨p7, 0, none⟩) l7 _
  clear hK K
  try simp only [Act.put, List.setIfInBounds_toArray, List.set_cons_zero, List.set_cons_succ]
  obtain ⟨w5, hN⟩ : ∃ x, x = World.setCell W ⟨p7, 0, none⟩ (.slice A7 n7 c7) := ⟨_, rfl⟩
  rw [← hN]
  replace T : Ext wd w5 := by rw [hN]; exact T.setCell (p := ⟨p7, 0, none⟩) l7 _
  replace r7 := hide (by rw [hN]; exact r7.out.set X7.out (by decide) _ : Own wE 43 0 w5 (.slice A7 n7 c7) a)
  replace r8 := hide (by rw [hN]; exact r8.out.set X7.out (by decide) _ : Own wE 43 0 w5 (.slice A8 n8 c8) b)
  replace r9 := hide (by rw [hN]; exact r9.out.set X7.out (by decide) _ : Own wE 43 0 w5 (.slice A9 n9 c9) c)
  replace X7 : Hid (Box w5 p7 24 (.slice A7 n7 c7)) := hide (by rw [hN]; exact X7.out.set _)
  replace X8 := hide (by rw [hN]; exact X8.out.far (p := ⟨p7, 0, none⟩) (Ne.symm d78) _ : Box w5 p8 24 (.slice none 0 0))
  replace X9 := hide (by rw [hN]; exact X9.out.far (p := ⟨p7, 0, none⟩) (Ne.symm d79) _ : Box w5 p9 24 (.slice none 0 0))
  clear hN hcb hfb hsb
  have hcb := X8.out.cell
  have hfb := X8.out.free
  have hsb := X8.out.lt
  refine mix_w rfl rfl (fun K hK => ?_)
  go_simp
  refine hK _ _ ?_ ?_
  · exact T.setCell (p := ⟨p8, 0, none⟩) l8 _
  clear hK K
  try simp only [Act.put, List.setIfInBounds_toArray, List.set_cons_zero, List.set_cons_succ]
  obtain ⟨w6, hN⟩ : ∃ x, x = World.setCell w5 ⟨p8, 0, none⟩ (.slice A8 n8 c8) := ⟨_, rfl⟩
  rw [← hN]
  replace T : Ext wd w6 := by rw [hN]; exact T.setCell (p := ⟨p8, 0, none⟩) l8 _
  replace r7 := hide (by rw [hN]; exact r7.out.set X8.out (by decide) _ : Own wE 43 0 w6 (.slice A7 n7 c7) a)
  replace r8 := hide (by rw [hN]; exact r8.out.set X8.out (by decide) _ : Own wE 43 0 w6 (.slice A8 n8 c8) b)
  replace r9 := hide (by rw [hN]; exact r9.out.set X8.out (by decide) _ : Own wE 43 0 w6 (.slice A9 n9 c9) c)
  replace X8 : Hid (Box w6 p8 24 (.slice A8 n8 c8)) := hide (by rw [hN]; exact X8.out.set _)
  replace X7 := hide (by rw [hN]; exact X7.out.far (p := ⟨p8, 0, none⟩) d78 _ : Box w6 p7 24 (.slice A7 n7 c7))
  replace X9 := hide (by rw [hN]; exact X9.out.far (p := ⟨p8, 0, none⟩) (Ne.symm d89) _ : Box w6 p9 24 (.slice none 0 0))
  clear hN hcb hfb hsb
  have hcb := X9.out.cell
  have hfb := X9.out.free
  have hsb := X9.out.lt
  refine mix_w rfl rfl (fun K hK => ?_)
  go_simp
  refine hK _ _ ?_ ?_
  · exact T.setCell (p := ⟨p9, 0, none⟩) l9 _
  clear hK K
  try simp only [Act.put, List.setIfInBounds_toArray, List.set_cons_zero, List.set_cons_succ]
  obtain ⟨w7, hN⟩ : ∃ x, x = World.setCell w6 ⟨p9, 0, none⟩ (.slice A9 n9 c9) := ⟨_, rfl⟩
  rw [← hN]
  replace T : Ext wd w7 := by rw [hN]; exact T.setCell (p := ⟨p9, 0, none⟩) l9 _
  replace r7 := hide (by rw [hN]; exact r7.out.set X9.out (by decide) _ : Own wE 43 0 w7 (.slice A7 n7 c7) a)
  replace r8 := hide (by rw [hN]; exact r8.out.set X9.out (by decide) _ : Own wE 43 0 w7 (.slice A8 n8 c8) b)
  replace r9 := hide (by rw [hN]; exact r9.out.set X9.out (by decide) _ : Own wE 43 0 w7 (.slice A9 n9 c9) c)
  replace X9 : Hid (Box w7 p9 24 (.slice A9 n9 c9)) := hide (by rw [hN]; exact X9.out.set _)
  replace X7 := hide (by rw [hN]; exact X7.out.far (p := ⟨p9, 0, none⟩) d79 _ : Box w7 p7 24 (.slice A7 n7 c7))
  replace X8 := hide (by rw [hN]; exact X8.out.far (p := ⟨p9, 0, none⟩) d89 _ : Box w7 p8 24 (.slice A8 n8 c8))
  clear hN hcb hfb hsb
  refine mix_nil ?_
  have T1 : Hid (Ext w1 w7) := hide (hEd1.out.trans (T.mono hEd1.out.size))
  clear hB T h1 h2 h3 hfx hfy hfz l7 l8 l9 hc3' hs3' hc4' hs4' hc5' hs5' hEd1
  replace ha := hide ha
  replace hb := hide hb
  replace hc := hide hc
  go_upto_region 4 with fail
  have T : Ext w7 w7.drew := (Below.refl _ _).drew
  have hc7' := X7.out.cell
  have hs7' := X7.out.lt
  have hc8' := X8.out.cell
  have hs8' := X8.out.lt
  have hc9' := X9.out.cell
  have hs9' := X9.out.lt
  refine wp_region_mix (fun W => Below w7.heap.size w7 W) [(0, true), (2, true), (4, true), (1, false), (3, false), (5, false), (6, true), (7, true), (8, true)] (by kernel_rfl) (by kernel_rfl) (by kernel_rfl) (by kernel_rfl) (fun _ _ d _ _ h => by cases d <;> exact h) ?_ ?_
  · exact T
  obtain ⟨wi, hwh⟩ : ∃ x, x = w7.drew := ⟨_, rfl⟩
  rw [← hwh] at T ⊢
  clear hwh
  iterate 3
    apply mix_q rfl rfl
    · intro W hW
      have hcW := (bcell hW).1
      go_simp
      try exact rfl
    simp only [Act.put, List.setIfInBounds_toArray, List.set_cons_zero, List.set_cons_succ]
  refine mix_w rfl rfl (fun K hK => ?_)
  go_simp
  refine (refList_any A7 n7 c7 a _ (rdO (r7.out.ext T)) e7.out (by have := e7.out; omega) hfa).mono ?_
  rintro e w8 ⟨v, rfl, hO, hE⟩
  refine hK _ _ (T.trans (hE.mono T.size)) ?_
  clear hK K
  try simp only [Act.put, List.setIfInBounds_toArray, List.set_cons_zero, List.set_cons_succ]
  replace T := T.trans (hE.mono T.size)
  replace hO : Own intE 3 _ w8 v (numL a) := hO
  obtain ⟨A27, c27, rfl, -, hc27, -⟩ := hO.rd
  obtain ⟨n27, e27⟩ : ∃ m, m = (List.length (numL a)) := ⟨_, rfl⟩
  rw [← e27] at hc27 ⊢
  have r27 := hO.base_le (Nat.zero_le _)
  rw [← e27] at r27
  replace r27 := hide r27
  replace e27 := hide e27
  have hn27 : (numL a).length ≤ 10240 := numL_len hla
  clear hO hE
  refine mix_w rfl rfl (fun K hK => ?_)
  go_simp
  refine (refList_any A8 n8 c8 b _ (rdO (r8.out.ext T)) e8.out (by have := e8.out; omega) hfb).mono ?_
  rintro e w9 ⟨v, rfl, hO, hE⟩
  refine hK _ _ (T.trans (hE.mono T.size)) ?_
  clear hK K
  try simp only [Act.put, List.setIfInBounds_toArray, List.set_cons_zero, List.set_cons_succ]
  replace T := T.trans (hE.mono T.size)
  replace hO : Own intE 3 _ w9 v (numL b) := hO
  replace r27 := hide (r27.out.ext hE)
  obtain ⟨A28, c28, rfl, -, hc28, -⟩ := hO.rd
  obtain ⟨n28, e28⟩ : ∃ m, m = (List.length (numL b)) := ⟨_, rfl⟩
  rw [← e28] at hc28 ⊢
  have r28 := hO.base_le (Nat.zero_le _)
  rw [← e28] at r28
  replace r28 := hide r28
  replace e28 := hide e28
  have hn28 : (numL b).length ≤ 10240 := numL_len hlb
  clear hO hE
  refine mix_w rfl rfl (fun K hK => ?_)
  go_simp
  refine (refList_any A9 n9 c9 c _ (rdO (r9.out.ext T)) e9.out (by have := e9.out; omega) hfc).mono ?_
  rintro e w10 ⟨v, rfl, hO, hE⟩
  refine hK _ _ (T.trans (hE.mono T.size)) ?_
  clear hK K
  try simp only [Act.put, List.setIfInBounds_toArray, List.set_cons_zero, List.set_cons_succ]
  replace T := T.trans (hE.mono T.size)
  replace hO : Own intE 3 _ w10 v (numL c) := hO
  replace r27 := hide (r27.out.ext hE)
  replace r28 := hide (r28.out.ext hE)
  obtain ⟨A29, c29, rfl, -, hc29, -⟩ := hO.rd
  obtain ⟨n29, e29⟩ : ∃ m, m = (List.length (numL c)) := ⟨_, rfl⟩
  rw [← e29] at hc29 ⊢
  have r29 := hO.base_le (Nat.zero_le _)
  rw [← e29] at r29
  replace r29 := hide r29
  replace e29 := hide e29
  have hn29 : (numL c).length ≤ 10240 := numL_len hlc
  clear hO hE
  iterate 3
    apply mix_q rfl rfl
    · intro W hW
      have hcW := (bcell hW).1
      go_simp
      try exact rfl
    simp only [Act.put, List.setIfInBounds_toArray, List.set_cons_zero, List.set_cons_succ]
  refine mix_nil ?_
  have T7 := hide T
  clear T hc7' hs7' hc8' hs8' hc9' hs9'
  rw [← e27.out] at hn27
  rw [← e28.out] at hn28
  rw [← e29.out] at hn29
  go_upto_region 5 with fail
  refine wp_region_flt [(some 13, 11), (some 14, 12), (some 15, 13)] (fun _ => .cells #[.slice none 0 0] 24) [(0, true), (1, true), (2, true), (5, true), (6, true), (8, true), (9, true), (3, false), (4, false), (7, false), (10, false)] [(14, false), (15, false), (16, false)] (fun _ => undef) (by kernel_rfl) (by kernel_rfl) (by kernel_rfl) (by kernel_rfl) (by kernel_rfl) (fun _ _ d _ _ h => by cases d <;> exact h) ?_ rfl ?_
  · refine floats_of (by kernel_rfl) ?_ (by decide) (by decide) (by decide)
    intro p hp
    simp only [List.mem_cons, List.not_mem_nil, or_false] at hp
    rcases hp with rfl | rfl | rfl
    all_goals
      intro K a w h
      refine flt_lay rfl rfl ?_
      go_simp
      exact h
  obtain ⟨we, hwe⟩ : ∃ x, x = w10.drew := ⟨_, rfl⟩
  rw [← hwe]
  have hEd : Ext w10 we := by rw [hwe]; exact (Below.refl _ _).drew
  clear hwe
  replace T7 := hide (T7.out.trans (hEd.mono T7.out.size))
  replace X7 := hide (X7.out.ext T7.out)
  replace r7 := hide (r7.out.ext T7.out)
  replace X8 := hide (X8.out.ext T7.out)
  replace r8 := hide (r8.out.ext T7.out)
  replace X9 := hide (X9.out.ext T7.out)
  replace r9 := hide (r9.out.ext T7.out)
  replace r27 := hide (r27.out.ext hEd)
  replace r28 := hide (r28.out.ext hEd)
  replace r29 := hide (r29.out.ext hEd)
  have X7e := X7
  have r7e := r7
  have X8e := X8
  have r8e := r8
  have X9e := X9
  have r9e := r9
  have T1e := hide (T1.out.trans (T7.out.mono T1.out.size))
  clear T1
  have hc7' := X7.out.cell
  have hs7' := X7.out.lt
  have hc8' := X8.out.cell
  have hs8' := X8.out.lt
  have hc9' := X9.out.cell
  have hs9' := X9.out.lt
  have T : Ext we we := Below.refl _ _
  iterate 7
    apply flt_q rfl rfl
    · intro x W hW
      have hcW : ∀ (b o : Nat), b < (World.heap we).size → W.cell? ⟨b, o, none⟩ = World.cell? we ⟨b, o, none⟩ := (bcell hW).1
      simp only [puts, Act.put, List.setIfInBounds_toArray, List.set_cons_zero, List.set_cons_succ]
      go_simp
      try exact rfl
    simp only [Act.put, List.setIfInBounds_toArray, List.set_cons_zero, List.set_cons_succ]
  refine flt_w rfl rfl fun W x hE K hK => ?_
  simp only [puts, Act.put, List.setIfInBounds_toArray, List.set_cons_zero, List.set_cons_succ]
  go_simp
  replace T := T.trans (hE.mono T.size)
  have hEa : Ext W (W.alloc (.cells #[.slice A7 n7 c7, .slice A8 n8 c8, .slice A9 n9 c9] 24)) := (Below.refl _ _).alloc (Nat.le_refl _) _
  replace T := T.trans (hEa.mono T.size)
  have hSR : SRow (W.alloc (.cells #[.slice A7 n7 c7, .slice A8 n8 c8, .slice A9 n9 c9] 24)) (some ⟨W.heap.size, 0, none⟩) [((A7, n7, c7), a), ((A8, n8, c8), b), ((A9, n9, c9), c)] :=
    srow (by simp) (cells_at (cs := [.slice A7 n7 c7, .slice A8 n8 c8, .slice A9 n9 c9]) rfl) (all3 (p := SOk _) (sok (r7.out.ext T) e7.out (by have := e7.out; omega) hfa) (sok (r8.out.ext T) e8.out (by have := e8.out; omega) hfb) (sok (r9.out.ext T) e9.out (by have := e9.out; omega) hfc))
  refine hK _ _ hEa (by simp only [puts, Act.put, List.setIfInBounds_toArray, List.set_cons_zero, List.set_cons_succ]) ?_
  clear hK K
  try simp only [Act.put, List.setIfInBounds_toArray, List.set_cons_zero, List.set_cons_succ]
  obtain ⟨w11, hw8⟩ : ∃ x, x = W.alloc (.cells #[.slice A7 n7 c7, .slice A8 n8 c8, .slice A9 n9 c9] 24) := ⟨_, rfl⟩
  rw [← hw8] at hSR T ⊢
  clear hw8 hEa hE
  generalize W.heap.size = g24 at *
  refine flt_w rfl rfl fun W x hE K hK => ?_
  simp only [puts, Act.put, List.setIfInBounds_toArray, List.set_cons_zero, List.set_cons_succ]
  go_simp
  replace T := T.trans (hE.mono T.size)
  have hTb := T.size
  refine (union_any (some ⟨g24, 0, none⟩) 3 3 [((A7, n7, c7), a), ((A8, n8, c8), b), ((A9, n9, c9), c)] _ (hSR.ext hE) rfl (by omega)).mono ?_
  rintro e w12 ⟨v, rfl, hO, hE2⟩
  refine hK _ _ hE2 (by simp only [puts, Act.put, List.setIfInBounds_toArray, List.set_cons_zero, List.set_cons_succ]) ?_
  clear hK K
  replace T := T.trans (hE2.mono T.size)
  try simp only [Act.put, List.setIfInBounds_toArray, List.set_cons_zero, List.set_cons_succ]
  rw [unionL_eq] at hO
  replace hO : Own wE 43 _ w12 v (uni [a, b, c]) := hO
  have hfA : Fit (uni [a, b, c]) := uni_fit _ (all3 (p := Fit) hfa hfb hfc)
  have hlA : (uni [a, b, c]).length ≤ 160 := uni_len 160 _ (all3 (p := fun v : List Nat => v.length ≤ 160) hla hlb hlc)
  obtain ⟨A13, c13, rfl, -, hc13, -⟩ := hO.rd
  obtain ⟨n13, e13⟩ : ∃ m, m = (List.length (uni [a, b, c])) := ⟨_, rfl⟩
  rw [← e13] at hc13 hO ⊢
  have r13 := hO.base_le hTb
  replace r13 := hide r13
  replace e13 := hide e13
  clear hO hE hE2 hSR
  refine flt_w rfl rfl fun W x hE K hK => ?_
  simp only [puts, Act.put, List.setIfInBounds_toArray, List.set_cons_zero, List.set_cons_succ]
  go_simp
  replace T := T.trans (hE.mono T.size)
  have hTb := T.size
  refine (meet_any A7 A8 n7 c7 n8 c8 a b _ (rdO (r7.out.ext T)) e7.out (by have := e7.out; omega) hfa (rdO (r8.out.ext T)) e8.out (by have := e8.out; omega) hfb).mono ?_
  rintro e w13 ⟨v, rfl, hO, hE2⟩
  refine hK _ _ hE2 (by simp only [puts, Act.put, List.setIfInBounds_toArray, List.set_cons_zero, List.set_cons_succ]) ?_
  clear hK K
  replace T := T.trans (hE2.mono T.size)
  try simp only [Act.put, List.setIfInBounds_toArray, List.set_cons_zero, List.set_cons_succ]
  replace hO : Own wE 43 _ w13 v (meetW a b) := hO
  have hfM : Fit (meetW a b) := meet_fit hfa hfb
  have hlM : (meetW a b).length ≤ 160 := meet_len 160 hla hlb
  obtain ⟨A14, c14, rfl, -, hc14, -⟩ := hO.rd
  obtain ⟨n14, e14⟩ : ∃ m, m = (List.length (meetW a b)) := ⟨_, rfl⟩
  rw [← e14] at hc14 hO ⊢
  have r14 := hO.base_le hTb
  replace r14 := hide r14
  replace e14 := hide e14
  have ap1 := hide (apart_new r13.out hO hE.size)
  replace r13 := hide ((r13.out.ext hE).ext hE2)
  clear hO hE hE2
  refine flt_w rfl rfl fun W x hE K hK => ?_
  simp only [puts, Act.put, List.setIfInBounds_toArray, List.set_cons_zero, List.set_cons_succ]
  go_simp
  replace T := T.trans (hE.mono T.size)
  have hTb := T.size
  refine (minusS_any A7 A8 n7 c7 n8 c8 a b _ (rdO (r7.out.ext T)) e7.out (by have := e7.out; omega) hfa (rdO (r8.out.ext T)) e8.out (by have := e8.out; omega) hfb).mono ?_
  rintro e w14 ⟨v, rfl, hO, hE2⟩
  refine hK _ _ hE2 (by simp only [puts, Act.put, List.setIfInBounds_toArray, List.set_cons_zero, List.set_cons_succ]) ?_
  clear hK K
  replace T := T.trans (hE2.mono T.size)
  try simp only [Act.put, List.setIfInBounds_toArray, List.set_cons_zero, List.set_cons_succ]
  replace hO : Own wE 43 _ w14 v (minusW a b) := hO
  have hfP : Fit (minusW a b) := minusW_fit hfa hfb
  have hlP : (minusW a b).length ≤ 160 := minusW_len 160 hla hlb
  obtain ⟨A15, c15, rfl, -, hc15, -⟩ := hO.rd
  obtain ⟨n15, e15⟩ : ∃ m, m = (List.length (minusW a b)) := ⟨_, rfl⟩
  rw [← e15] at hc15 hO ⊢
  have r15 := hO.base_le hTb
  replace r15 := hide r15
  replace e15 := hide e15
  have ap2 := hide (apart_new r13.out hO hE.size)
  have ap3 := hide (apart_new r14.out hO hE.size)
  replace r13 := hide ((r13.out.ext hE).ext hE2)
  replace r14 := hide ((r14.out.ext hE).ext hE2)
  clear hO hE hE2
  refine flt_end fun W x hE hA => ?_
  simp only [puts, Act.put, List.setIfInBounds_toArray, List.set_cons_zero, List.set_cons_succ]
  obtain ⟨p13, z13, X13, l13⟩ := hA.1 11 (by simp)
  obtain ⟨p14, z14, X14, l14⟩ := hA.1 12 (by simp)
  obtain ⟨p15, z15, X15, l15⟩ := hA.1 13 (by simp)
  have d1314 : p13 ≠ p14 := fun h => hA.2 11 (by simp) 12 (by simp) (by decide) (by rw [z13, z14, h])
  have d1315 : p13 ≠ p15 := fun h => hA.2 11 (by simp) 13 (by simp) (by decide) (by rw [z13, z15, h])
  have d1415 : p14 ≠ p15 := fun h => hA.2 12 (by simp) 13 (by simp) (by decide) (by rw [z14, z15, h])
  rw [z13, z14, z15]
  replace X13 : Hid (Box W p13 24 (.slice none 0 0)) := hide X13
  replace r13 := hide (r13.out.ext hE)
  replace l13 : we.heap.size ≤ p13 := l13
  replace X14 : Hid (Box W p14 24 (.slice none 0 0)) := hide X14
  replace r14 := hide (r14.out.ext hE)
  replace l14 : we.heap.size ≤ p14 := l14
  replace X15 : Hid (Box W p15 24 (.slice none 0 0)) := hide X15
  replace r15 := hide (r15.out.ext hE)
  replace l15 : we.heap.size ≤ p15 := l15
  replace T := T.trans (hE.mono T.size)
  clear hA hE z13 z14 z15
  have hcb := X13.out.cell
  have hfb := X13.out.free
  have hsb := X13.out.lt
  refine mix_w rfl rfl (fun K hK => ?_)
  go_simp
  refine hK _ _ ?_ ?_
  · exact T.setCell (p := ⟨p13, 0, none⟩) l13 _
  clear hK K
  try simp only [Act.put, List.setIfInBounds_toArray, List.set_cons_zero, List.set_cons_succ]
  obtain ⟨w15, hN⟩ : ∃ x, x = World.setCell W ⟨p13, 0, none⟩ (.slice A13 n13 c13) := ⟨_, rfl⟩
  rw [← hN]
  replace T : Ext we w15 := by rw [hN]; exact T.setCell (p := ⟨p13, 0, none⟩) l13 _
  replace r13 := hide (by rw [hN]; exact r13.out.set X13.out (by decide) _ : Own wE 43 we.heap.size w15 (.slice A13 n13 c13) (uni [a, b, c]))
  replace r14 := hide (by rw [hN]; exact r14.out.set X13.out (by decide) _ : Own wE 43 we.heap.size w15 (.slice A14 n14 c14) (meetW a b))
  replace r15 := hide (by rw [hN]; exact r15.out.set X13.out (by decide) _ : Own wE 43 we.heap.size w15 (.slice A15 n15 c15) (minusW a b))
  replace X13 : Hid (Box w15 p13 24 (.slice A13 n13 c13)) := hide (by rw [hN]; exact X13.out.set _)
  replace X14 := hide (by rw [hN]; exact X14.out.far (p := ⟨p13, 0, none⟩) (Ne.symm d1314) _ : Box w15 p14 24 (.slice none 0 0))
  replace X15 := hide (by rw [hN]; exact X15.out.far (p := ⟨p13, 0, none⟩) (Ne.symm d1315) _ : Box w15 p15 24 (.slice none 0 0))
  clear hN hcb hfb hsb
  have hcb := X14.out.cell
  have hfb := X14.out.free
  have hsb := X14.out.lt
  refine mix_w rfl rfl (fun K hK => ?_)
  go_simp
  refine hK _ _ ?_ ?_
  · exact T.setCell (p := ⟨p14, 0, none⟩) l14 _
  clear hK K
  try simp only [Act.put, List.setIfInBounds_toArray, List.set_cons_zero, List.set_cons_succ]
  obtain ⟨w16, hN⟩ : ∃ x, x = World.setCell w15 ⟨p14, 0, none⟩ (.slice A14 n14 c14) := ⟨_, rfl⟩
  rw [← hN]
  replace T : Ext we w16 := by rw [hN]; exact T.setCell (p := ⟨p14, 0, none⟩) l14 _
  replace r13 := hide (by rw [hN]; exact r13.out.set X14.out (by decide) _ : Own wE 43 we.heap.size w16 (.slice A13 n13 c13) (uni [a, b, c]))
  replace r14 := hide (by rw [hN]; exact r14.out.set X14.out (by decide) _ : Own wE 43 we.heap.size w16 (.slice A14 n14 c14) (meetW a b))
  replace r15 := hide (by rw [hN]; exact r15.out.set X14.out (by decide) _ : Own wE 43 we.heap.size w16 (.slice A15 n15 c15) (minusW a b))
  replace X14 : Hid (Box w16 p14 24 (.slice A14 n14 c14)) := hide (by rw [hN]; exact X14.out.set _)
  replace X13 := hide (by rw [hN]; exact X13.out.far (p := ⟨p14, 0, none⟩) d1314 _ : Box w16 p13 24 (.slice A13 n13 c13))
  replace X15 := hide (by rw [hN]; exact X15.out.far (p := ⟨p14, 0, none⟩) (Ne.symm d1415) _ : Box w16 p15 24 (.slice none 0 0))
  clear hN hcb hfb hsb
  have hcb := X15.out.cell
  have hfb := X15.out.free
  have hsb := X15.out.lt
  refine mix_w rfl rfl (fun K hK => ?_)
  go_simp
  refine hK _ _ ?_ ?_
  · exact T.setCell (p := ⟨p15, 0, none⟩) l15 _
  clear hK K
  try simp only [Act.put, List.setIfInBounds_toArray, List.set_cons_zero, List.set_cons_succ]
  obtain ⟨w17, hN⟩ : ∃ x, x = World.setCell w16 ⟨p15, 0, none⟩ (.slice A15 n15 c15) := ⟨_, rfl⟩
  rw [← hN]
  replace T : Ext we w17 := by rw [hN]; exact T.setCell (p := ⟨p15, 0, none⟩) l15 _
  replace r13 := hide (by rw [hN]; exact r13.out.set X15.out (by decide) _ : Own wE 43 we.heap.size w17 (.slice A13 n13 c13) (uni [a, b, c]))
  replace r14 := hide (by rw [hN]; exact r14.out.set X15.out (by decide) _ : Own wE 43 we.heap.size w17 (.slice A14 n14 c14) (meetW a b))
  replace r15 := hide (by rw [hN]; exact r15.out.set X15.out (by decide) _ : Own wE 43 we.heap.size w17 (.slice A15 n15 c15) (minusW a b))
  replace X15 : Hid (Box w17 p15 24 (.slice A15 n15 c15)) := hide (by rw [hN]; exact X15.out.set _)
  replace X13 := hide (by rw [hN]; exact X13.out.far (p := ⟨p15, 0, none⟩) d1315 _ : Box w17 p13 24 (.slice A13 n13 c13))
  replace X14 := hide (by rw [hN]; exact X14.out.far (p := ⟨p15, 0, none⟩) d1415 _ : Box w17 p14 24 (.slice A14 n14 c14))
  clear hN hcb hfb hsb
  refine mix_nil ?_
  have Te := hide T
  replace T7 := hide (T7.out.trans (T.mono T7.out.size))
  replace X7 := hide (X7.out.ext T)
  replace X8 := hide (X8.out.ext T)
  replace X9 := hide (X9.out.ext T)
  replace r7 := hide (r7.out.ext T)
  replace r8 := hide (r8.out.ext T)
  replace r9 := hide (r9.out.ext T)
  replace r27 := hide (r27.out.ext T)
  replace r28 := hide (r28.out.ext T)
  replace r29 := hide (r29.out.ext T)
  clear T l13 l14 l15 hc7' hs7' hc8' hs8' hc9' hs9' d1314 d1315 d1415
  have hwi := hide (sets_within hfa hfb)
  have hsa := hide (sets_all hfa hfb hfc)
  have hsm := hide (sets_meet hfa hfb)
  have hsn := hide (sets_minus hfa hfb)
  go_upto_region 6 with fail
  have T : Ext w17 w17.drew := (Below.refl _ _).drew
  have hc7' := X7.out.cell
  have hs7' := X7.out.lt
  have hc8' := X8.out.cell
  have hs8' := X8.out.lt
  have hc13' := X13.out.cell
  have hs13' := X13.out.lt
  have hc14' := X14.out.cell
  have hs14' := X14.out.lt
  have hc15' := X15.out.cell
  have hs15' := X15.out.lt
  refine wp_region_mix (fun W => Below w17.heap.size w17 W) [(0, true), (1, true), (2, true), (3, true), (4, false), (5, false), (6, false), (7, false), (8, true), (9, true), (10, true), (11, true), (12, true), (13, false), (14, false), (15, false), (16, true), (17, true), (18, true), (19, true), (20, true), (21, true), (22, false), (23, false), (24, false), (25, true), (26, true), (27, true), (28, true), (29, true), (31, true), (32, true), (30, false), (33, false), (34, true), (35, true), (36, true), (37, true)] (by kernel_rfl) (by kernel_rfl) (by kernel_rfl) (by kernel_rfl) (fun _ _ d _ _ h => by cases d <;> exact h) ?_ ?_
  · exact T
  obtain ⟨wj, hwh⟩ : ∃ x, x = w17.drew := ⟨_, rfl⟩
  rw [← hwh] at T ⊢
  clear hwh
  iterate 4
    apply mix_q rfl rfl
    · intro W hW
      have hcW := (bcell hW).1
      go_simp
      try exact rfl
    simp only [Act.put, List.setIfInBounds_toArray, List.set_cons_zero, List.set_cons_succ]
  refine mix_w rfl rfl (fun K hK => ?_)
  go_simp
  have hE : Ext wj (wj.alloc (.cells #[.slice A27 n27 c27, .slice A28 n28 c28, .slice A29 n29 c29] 25)) := (Below.refl _ _).alloc (Nat.le_refl _) _
  replace T := T.trans (hE.mono T.size)
  have hLR : LRow (wj.alloc (.cells #[.slice A27 n27 c27, .slice A28 n28 c28, .slice A29 n29 c29] 25)) (some ⟨wj.heap.size, 0, none⟩) [((A27, n27, c27), numL a), ((A28, n28, c28), numL b), ((A29, n29, c29), numL c)] :=
    lrow (by simp) (cells_atI (cs := [.slice A27 n27 c27, .slice A28 n28 c28, .slice A29 n29 c29]) rfl) (all3 (p := LOk _) (lok (r27.out.ext T) e27.out (by omega)) (lok (r28.out.ext T) e28.out (by omega)) (lok (r29.out.ext T) e29.out (by omega)))
  refine hK _ _ T ?_
  clear hK K
  try simp only [Act.put, List.setIfInBounds_toArray, List.set_cons_zero, List.set_cons_succ]
  obtain ⟨w18, hwN⟩ : ∃ x, x = wj.alloc (.cells #[.slice A27 n27 c27, .slice A28 n28 c28, .slice A29 n29 c29] 25) := ⟨_, rfl⟩
  rw [← hwN] at hLR T ⊢
  clear hwN hE
  generalize wj.heap.size = g25 at *
  refine mix_w rfl rfl (fun K hK => ?_)
  go_simp
  refine (concat_any (some ⟨g25, 0, none⟩) 3 3 [((A27, n27, c27), numL a), ((A28, n28, c28), numL b), ((A29, n29, c29), numL c)] _ hLR rfl (by omega)).mono ?_
  rintro e w19 ⟨v, rfl, hO, hE⟩
  refine hK _ _ (T.trans (hE.mono T.size)) ?_
  clear hK K
  try simp only [Act.put, List.setIfInBounds_toArray, List.set_cons_zero, List.set_cons_succ]
  replace T := T.trans (hE.mono T.size)
  replace hO : Own intE 3 _ w19 v (numL a ++ (numL b ++ (numL c ++ []))) := hO
  obtain ⟨A30, c30, rfl, -, hc30, -⟩ := hO.rd
  obtain ⟨n30, e30⟩ : ∃ m, m = (List.length (numL a ++ (numL b ++ (numL c ++ [])))) := ⟨_, rfl⟩
  rw [← e30] at hc30 ⊢
  have r30 := hO.base_le (Nat.zero_le _)
  rw [← e30] at r30
  replace r30 := hide r30
  replace e30 := hide e30
  have hn30 : n30 ≤ 1000000 := by rw [e30.out, List.length_append, List.length_append, List.append_nil, ← e27.out, ← e28.out, ← e29.out]; omega
  clear hO hE hLR
  refine mix_w rfl rfl (fun K hK => ?_)
  go_simp
  refine (refOf_any A30 n30 c30 (numL a ++ (numL b ++ (numL c ++ []))) _ (rdO r30.out) e30.out hn30 (sets_may hfa hfb hfc)).mono ?_
  rintro e w20 ⟨v, rfl, hO, hE⟩
  refine hK _ _ (T.trans (hE.mono T.size)) ?_
  clear hK K
  try simp only [Act.put, List.setIfInBounds_toArray, List.set_cons_zero, List.set_cons_succ]
  replace T := T.trans (hE.mono T.size)
  rw [hsa.out] at hO
  obtain ⟨A31, c31, rfl, -, hc31, -⟩ := hO.rd
  obtain ⟨n31, e31⟩ : ∃ m, m = (List.length (uni [a, b, c])) := ⟨_, rfl⟩
  rw [← e31] at hc31 ⊢
  have r31 := hO.base_le (Nat.zero_le _)
  rw [← e31] at r31
  replace r31 := hide r31
  replace e31 := hide e31
  clear hO hE r30 e30 hc30 hn30 hsa
  refine mix_w rfl rfl (fun K hK => ?_)
  go_simp
  refine (refSame_any A13 A31 n13 c13 n31 c31 (uni [a, b, c]) (uni [a, b, c]) _ (rdO (r13.out.ext T)) e13.out (by have := e13.out; omega) (rdO r31.out) e31.out).mono ?_
  rintro e w21 ⟨rfl, hE⟩
  refine hK _ _ (T.trans (hE.mono T.size)) ?_
  clear hK K
  try simp only [Act.put, List.setIfInBounds_toArray, List.set_cons_zero, List.set_cons_succ]
  replace T := T.trans (hE.mono T.size)
  clear hE r31 e31 hc31
  iterate 2
    apply mix_q rfl rfl
    · intro W hW
      have hcW := (bcell hW).1
      go_simp
      try exact rfl
    simp only [Act.put, List.setIfInBounds_toArray, List.set_cons_zero, List.set_cons_succ]
  iterate 3
    apply mix_on rfl (wanted_is rfl rfl rfl rfl rfl)
    · intro W hW
      have hcW := (bcell hW).1
      go_simp
      try exact rfl
    simp only [Act.put, List.setIfInBounds_toArray, List.set_cons_zero, List.set_cons_succ]
  refine mix_won rfl (wanted_is rfl rfl rfl rfl rfl) (fun K hK => ?_)
  go_simp
  refine (refSome_any true A27 A28 n27 c27 n28 c28 (numL a) (numL b) _ (rdO (r27.out.ext T)) (rdO (r28.out.ext T)) e27.out e28.out (by omega) (by omega)).mono ?_
  rintro e w22 ⟨v, rfl, hO, hE⟩
  refine hK _ _ (T.trans (hE.mono T.size)) ?_
  clear hK K
  try simp only [Act.put, List.setIfInBounds_toArray, List.set_cons_zero, List.set_cons_succ]
  replace T := T.trans (hE.mono T.size)
  obtain ⟨A30, c30, rfl, -, hc30, -⟩ := hO.rd
  obtain ⟨n30, e30⟩ : ∃ m, m = (List.length (someL (numL a) (numL b) true)) := ⟨_, rfl⟩
  rw [← e30] at hc30 ⊢
  have r30 := hO.base_le (Nat.zero_le _)
  rw [← e30] at r30
  replace r30 := hide r30
  replace e30 := hide e30
  have hn30 : n30 ≤ 1000000 := by have h1 := someL_len (numL a) (numL b) true; rw [← e30.out, ← e27.out] at h1; omega
  clear hO hE
  refine mix_won rfl (wanted_is rfl rfl rfl rfl rfl) (fun K hK => ?_)
  go_simp
  refine (refOf_any A30 n30 c30 (someL (numL a) (numL b) true) _ (rdO r30.out) e30.out hn30 (some_may hfa _ _)).mono ?_
  rintro e w23 ⟨v, rfl, hO, hE⟩
  refine hK _ _ (T.trans (hE.mono T.size)) ?_
  clear hK K
  try simp only [Act.put, List.setIfInBounds_toArray, List.set_cons_zero, List.set_cons_succ]
  replace T := T.trans (hE.mono T.size)
  rw [hsm.out] at hO
  obtain ⟨A31, c31, rfl, -, hc31, -⟩ := hO.rd
  obtain ⟨n31, e31⟩ : ∃ m, m = (List.length (meetW a b)) := ⟨_, rfl⟩
  rw [← e31] at hc31 ⊢
  have r31 := hO.base_le (Nat.zero_le _)
  rw [← e31] at r31
  replace r31 := hide r31
  replace e31 := hide e31
  clear hO hE r30 e30 hc30 hn30
  refine mix_won rfl (wanted_is rfl rfl rfl rfl rfl) (fun K hK => ?_)
  go_simp
  refine (refSame_any A14 A31 n14 c14 n31 c31 (meetW a b) (meetW a b) _ (rdO (r14.out.ext T)) e14.out (by have := e14.out; omega) (rdO r31.out) e31.out).mono ?_
  rintro e w24 ⟨rfl, hE⟩
  refine hK _ _ (T.trans (hE.mono T.size)) ?_
  clear hK K
  try simp only [Act.put, List.setIfInBounds_toArray, List.set_cons_zero, List.set_cons_succ]
  replace T := T.trans (hE.mono T.size)
  clear hE r31 e31 hc31
  iterate 1
    apply mix_on rfl (wanted_is rfl rfl rfl rfl rfl)
    · intro W hW
      have hcW := (bcell hW).1
      go_simp
      try exact rfl
    simp only [Act.put, List.setIfInBounds_toArray, List.set_cons_zero, List.set_cons_succ]
  iterate 2
    apply mix_q rfl rfl
    · intro W hW
      have hcW := (bcell hW).1
      go_simp
      try exact rfl
    simp only [Act.put, List.setIfInBounds_toArray, List.set_cons_zero, List.set_cons_succ]
  iterate 3
    apply mix_on rfl (wanted_is rfl rfl rfl rfl rfl)
    · intro W hW
      have hcW := (bcell hW).1
      go_simp
      try exact rfl
    simp only [Act.put, List.setIfInBounds_toArray, List.set_cons_zero, List.set_cons_succ]
  refine mix_won rfl (wanted_is rfl rfl rfl rfl rfl) (fun K hK => ?_)
  go_simp
  refine (refSome_any false A27 A28 n27 c27 n28 c28 (numL a) (numL b) _ (rdO (r27.out.ext T)) (rdO (r28.out.ext T)) e27.out e28.out (by omega) (by omega)).mono ?_
  rintro e w25 ⟨v, rfl, hO, hE⟩
  refine hK _ _ (T.trans (hE.mono T.size)) ?_
  clear hK K
  try simp only [Act.put, List.setIfInBounds_toArray, List.set_cons_zero, List.set_cons_succ]
  replace T := T.trans (hE.mono T.size)
  obtain ⟨A30, c30, rfl, -, hc30, -⟩ := hO.rd
  obtain ⟨n30, e30⟩ : ∃ m, m = (List.length (someL (numL a) (numL b) false)) := ⟨_, rfl⟩
  rw [← e30] at hc30 ⊢
  have r30 := hO.base_le (Nat.zero_le _)
  rw [← e30] at r30
  replace r30 := hide r30
  replace e30 := hide e30
  have hn30 : n30 ≤ 1000000 := by have h1 := someL_len (numL a) (numL b) false; rw [← e30.out, ← e27.out] at h1; omega
  clear hO hE
  refine mix_won rfl (wanted_is rfl rfl rfl rfl rfl) (fun K hK => ?_)
  go_simp
  refine (refOf_any A30 n30 c30 (someL (numL a) (numL b) false) _ (rdO r30.out) e30.out hn30 (some_may hfa _ _)).mono ?_
  rintro e w26 ⟨v, rfl, hO, hE⟩
  refine hK _ _ (T.trans (hE.mono T.size)) ?_
  clear hK K
  try simp only [Act.put, List.setIfInBounds_toArray, List.set_cons_zero, List.set_cons_succ]
  replace T := T.trans (hE.mono T.size)
  rw [hsn.out] at hO
  obtain ⟨A31, c31, rfl, -, hc31, -⟩ := hO.rd
  obtain ⟨n31, e31⟩ : ∃ m, m = (List.length (minusW a b)) := ⟨_, rfl⟩
  rw [← e31] at hc31 ⊢
  have r31 := hO.base_le (Nat.zero_le _)
  rw [← e31] at r31
  replace r31 := hide r31
  replace e31 := hide e31
  clear hO hE r30 e30 hc30 hn30
  refine mix_won rfl (wanted_is rfl rfl rfl rfl rfl) (fun K hK => ?_)
  go_simp
  refine (refSame_any A15 A31 n15 c15 n31 c31 (minusW a b) (minusW a b) _ (rdO (r15.out.ext T)) e15.out (by have := e15.out; omega) (rdO r31.out) e31.out).mono ?_
  rintro e w27 ⟨rfl, hE⟩
  refine hK _ _ (T.trans (hE.mono T.size)) ?_
  clear hK K
  try simp only [Act.put, List.setIfInBounds_toArray, List.set_cons_zero, List.set_cons_succ]
  replace T := T.trans (hE.mono T.size)
  clear hE r31 e31 hc31
  iterate 1
    apply mix_on rfl (wanted_is rfl rfl rfl rfl rfl)
    · intro W hW
      have hcW := (bcell hW).1
      go_simp
      try exact rfl
    simp only [Act.put, List.setIfInBounds_toArray, List.set_cons_zero, List.set_cons_succ]
  iterate 2
    apply mix_q rfl rfl
    · intro W hW
      have hcW := (bcell hW).1
      go_simp
      try exact rfl
    simp only [Act.put, List.setIfInBounds_toArray, List.set_cons_zero, List.set_cons_succ]
  iterate 4
    apply mix_on rfl (wanted_is rfl rfl rfl rfl rfl)
    · intro W hW
      have hcW := (bcell hW).1
      go_simp
      try exact rfl
    simp only [Act.put, List.setIfInBounds_toArray, List.set_cons_zero, List.set_cons_succ]
  obtain ⟨dm, hdm⟩ : ∃ x, x = decide (minusW a b = []) := ⟨_, rfl⟩
  replace hdm := hide hdm
  refine mix_won rfl (wanted_is rfl rfl rfl rfl rfl) (fun K hK => ?_)
  go_simp
  refine (within_any A7 A8 n7 c7 n8 c8 a b _ (rdO (r7.out.ext T)) e7.out (by have := e7.out; omega) hfa (rdO (r8.out.ext T)) e8.out (by have := e8.out; omega) hfb).mono ?_
  rintro e w28 ⟨rfl, hE⟩
  refine hK _ _ (T.trans (hE.mono T.size)) ?_
  clear hK K
  try simp only [Act.put, List.setIfInBounds_toArray, List.set_cons_zero, List.set_cons_succ]
  replace T := T.trans (hE.mono T.size)
  rw [show decide (trimW (joinL minusN (ofW a) (ofW b)) = []) = dm from hdm.out.symm]
  clear hE
  refine mix_won rfl (wanted_is rfl rfl rfl rfl rfl) (fun K hK => ?_)
  go_simp
  refine (refSome_any false A27 A28 n27 c27 n28 c28 (numL a) (numL b) _ (rdO (r27.out.ext T)) (rdO (r28.out.ext T)) e27.out e28.out (by omega) (by omega)).mono ?_
  rintro e w29 ⟨v, rfl, hO, hE⟩
  refine hK _ _ (T.trans (hE.mono T.size)) ?_
  clear hK K
  try simp only [Act.put, List.setIfInBounds_toArray, List.set_cons_zero, List.set_cons_succ]
  replace T := T.trans (hE.mono T.size)
  obtain ⟨A30, c30, rfl, -, hc30, -⟩ := hO.rd
  obtain ⟨n30, e30⟩ : ∃ m, m = (List.length (someL (numL a) (numL b) false)) := ⟨_, rfl⟩
  rw [← e30] at hc30 ⊢
  have r30 := hO.base_le (Nat.zero_le _)
  rw [← e30] at r30
  replace r30 := hide r30
  replace e30 := hide e30
  have hn30 : n30 ≤ 1000000 := by have h1 := someL_len (numL a) (numL b) false; rw [← e30.out, ← e27.out] at h1; omega
  clear hO hE
  have hz : Hid (decide (n30 = 0) = dm) := hide (by rw [hdm.out, e30.out]; exact hwi.out.symm)
  iterate 2
    apply mix_on rfl (wanted_is rfl rfl rfl rfl rfl)
    · intro W hW
      have hcW := (bcell hW).1
      go_simp
      try exact rfl
    simp only [Act.put, List.setIfInBounds_toArray, List.set_cons_zero, List.set_cons_succ]
  have hz1 : ((n30 : Int) == 0) = dm := by rw [← hz.out]; exact Bool.eq_iff_iff.2 (by rw [beq_iff_eq, decide_eq_true_iff]; omega)
  have hz2 : (n30 == 0) = dm := by rw [← hz.out]; rfl
  first | rw [hz1] | rw [hz2] | rw [hz.out]
  clear hz1 hz2
  iterate 1
    apply mix_on rfl (wanted_is rfl rfl rfl rfl rfl)
    · intro W hW
      have hcW := (bcell hW).1
      go_simp
      try exact rfl
    simp only [Act.put, List.setIfInBounds_toArray, List.set_cons_zero, List.set_cons_succ]
  iterate 1
    apply mix_q rfl rfl
    · intro W hW
      have hcW := (bcell hW).1
      go_simp
      try exact rfl
    simp only [Act.put, List.setIfInBounds_toArray, List.set_cons_zero, List.set_cons_succ]
  refine mix_nil ?_
  clear hc7' hs7' hc8' hs8' hc13' hs13' hc14' hs14' hc15' hs15' r30 e30 hc30 hn30 hz hwi hsm hsn
  replace Te := hide (Te.out.trans (T.mono Te.out.size))
  replace T7 := hide (T7.out.trans (T.mono T7.out.size))
  replace X7 := hide (X7.out.ext T)
  replace X8 := hide (X8.out.ext T)
  replace X9 := hide (X9.out.ext T)
  replace X13 := hide (X13.out.ext T)
  replace X14 := hide (X14.out.ext T)
  replace X15 := hide (X15.out.ext T)
  replace r7 := hide (r7.out.ext T)
  replace r8 := hide (r8.out.ext T)
  replace r9 := hide (r9.out.ext T)
  replace r13 := hide (r13.out.ext T)
  replace r14 := hide (r14.out.ext T)
  replace r15 := hide (r15.out.ext T)
  replace r27 := hide (r27.out.ext T)
  replace r28 := hide (r28.out.ext T)
  replace r29 := hide (r29.out.ext T)
  clear T
  have hc7' := X7.out.cell
  have hs7' := X7.out.lt
  go_wp2_with fail
  have hE : Ext w29 (w29.alloc (.cells #[.slice A7 n7 c7] 24)) := (Below.refl _ _).alloc (Nat.le_refl _) _
  have hSR : SRow (w29.alloc (.cells #[.slice A7 n7 c7] 24)) (some ⟨w29.heap.size, 0, none⟩) [((A7, n7, c7), a)] :=
    srow (by simp) (cells_at (cs := [.slice A7 n7 c7]) rfl) (all1 (p := SOk _) (sok (r7.out.ext hE) e7.out (by have := e7.out; omega) hfa))
  refine (union_any (some ⟨w29.heap.size, 0, none⟩) 1 1 [((A7, n7, c7), a)] _ hSR rfl (by omega)).mono ?_
  rintro e w30 ⟨v, rfl, hO, hE2⟩
  rw [unionL_eq] at hO
  replace hO : Own wE 43 _ w30 v (uni [a]) := hO
  have hf1 : Fit (uni [a]) := uni_fit _ (all1 (p := Fit) hfa)
  have hl1 : (uni [a]).length ≤ 160 := uni_len 160 _ (all1 (p := fun v : List Nat => v.length ≤ 160) hla)
  have hTb := Nat.le_trans Te.out.size hE.size
  obtain ⟨A16, c16, rfl, -, hc16, -⟩ := hO.rd
  obtain ⟨n16, e16⟩ : ∃ m, m = (List.length (uni [a])) := ⟨_, rfl⟩
  rw [← e16] at hc16 hO ⊢
  have r16 := hO.base_le hTb
  replace r16 := hide r16
  replace e16 := hide e16
  have ap4 := hide (apart_new r13.out hO hE.size)
  have ap5 := hide (apart_new r14.out hO hE.size)
  have ap6 := hide (apart_new r15.out hO hE.size)
  have T : Ext w29 w30 := hE.trans (hE2.mono hE.size)
  clear hO hE hE2 hSR hc7' hs7'
  go_wp2_with fail
  refine (union_any none 0 0 [] _ ⟨.inl rfl, fun s hs => by cases hs⟩ rfl (by omega)).mono ?_
  rintro e w31 ⟨v, rfl, hO, hE⟩
  replace hO : Own wE 43 _ w31 v [] := hO
  replace T := T.trans (hE.mono T.size)
  replace r16 := hide (r16.out.ext hE)
  obtain ⟨A17, c17, rfl, -, -, -⟩ := hO.rd
  clear hO hE
  go_upto_region 9 with fail
  have hs1 := hide (sets_one hfa)
  obtain ⟨w32, hw⟩ : ∃ x, x = (w31.alloc (.cells #[.slice A16 n16 c16] 24)).alloc (.cells #[.slice A17 0 c17] 24) := ⟨_, rfl⟩
  rw [← hw]
  have hE : Ext w31 w32 := by rw [hw]; exact ((Below.refl _ _).alloc (Nat.le_refl _) _).alloc (by simp) _
  have X16 : Hid (Box w32 w31.heap.size 24 (.slice A16 n16 c16)) := hide (by rw [hw]; exact (Box.new _ _ _).alloc _)
  have X17 : Hid (Box w32 (w31.heap.size + 1) 24 (.slice A17 0 c17)) := hide (by
    rw [hw]
    have := Box.new (w31.alloc (.cells #[.slice A16 n16 c16] 24)) 24 (.slice A17 0 c17)
    rw [World.size_alloc] at this
    exact this)
  clear hw
  obtain ⟨p16, hp16⟩ : ∃ x, x = w31.heap.size := ⟨_, rfl⟩
  rw [← hp16] at X16 X17 ⊢
  obtain ⟨p17, hp17⟩ : ∃ x, x = p16 + 1 := ⟨_, rfl⟩
  rw [← hp17] at X17 ⊢
  clear hp16 hp17
  replace T := T.trans (hE.mono T.size)
  replace r16 := hide (r16.out.ext hE)
  clear hE
  replace Te := hide (Te.out.trans (T.mono Te.out.size))
  replace X13 := hide (X13.out.ext T)
  replace X14 := hide (X14.out.ext T)
  replace X15 := hide (X15.out.ext T)
  replace r13 := hide (r13.out.ext T)
  replace r14 := hide (r14.out.ext T)
  replace r15 := hide (r15.out.ext T)
  replace r27 := hide (r27.out.ext T)
  clear T X7 X8 X9 r7 r8 r9 r28 r29 e28 e29 hc28 hc29 T7
  have T : Ext w32 w32.drew := (Below.refl _ _).drew
  have hc16' := X16.out.cell
  have hs16' := X16.out.lt
  have hc17' := X17.out.cell
  have hs17' := X17.out.lt
  refine wp_region_mix (fun W => Below w32.heap.size w32 W) [(0, true), (1, true), (2, false), (3, false), (4, true), (5, true), (6, true), (7, true), (8, true), (9, true), (10, true)] (by kernel_rfl) (by kernel_rfl) (by kernel_rfl) (by kernel_rfl) (fun _ _ d _ _ h => by cases d <;> exact h) ?_ ?_
  · exact T
  obtain ⟨wk, hwh⟩ : ∃ x, x = w32.drew := ⟨_, rfl⟩
  rw [← hwh] at T ⊢
  clear hwh
  iterate 2
    apply mix_q rfl rfl
    · intro W hW
      have hcW := (bcell hW).1
      go_simp
      try exact rfl
    simp only [Act.put, List.setIfInBounds_toArray, List.set_cons_zero, List.set_cons_succ]
  refine mix_w rfl rfl (fun K hK => ?_)
  go_simp
  refine (refOf_any A27 n27 c27 (numL a) _ (rdO (r27.out.ext T)) e27.out (by omega) (numL_may hfa)).mono ?_
  rintro e w33 ⟨v, rfl, hO, hE⟩
  refine hK _ _ (T.trans (hE.mono T.size)) ?_
  clear hK K
  try simp only [Act.put, List.setIfInBounds_toArray, List.set_cons_zero, List.set_cons_succ]
  replace T := T.trans (hE.mono T.size)
  rw [hs1.out] at hO
  obtain ⟨A31, c31, rfl, -, hc31, -⟩ := hO.rd
  obtain ⟨n31, e31⟩ : ∃ m, m = (List.length (uni [a])) := ⟨_, rfl⟩
  rw [← e31] at hc31 ⊢
  have r31 := hO.base_le (Nat.zero_le _)
  rw [← e31] at r31
  replace r31 := hide r31
  replace e31 := hide e31
  clear hO hE
  refine mix_w rfl rfl (fun K hK => ?_)
  go_simp
  refine (refSame_any A16 A31 n16 c16 n31 c31 (uni [a]) (uni [a]) _ (rdO (r16.out.ext T)) e16.out (by have := e16.out; omega) (rdO r31.out) e31.out).mono ?_
  rintro e w34 ⟨rfl, hE⟩
  refine hK _ _ (T.trans (hE.mono T.size)) ?_
  clear hK K
  try simp only [Act.put, List.setIfInBounds_toArray, List.set_cons_zero, List.set_cons_succ]
  replace T := T.trans (hE.mono T.size)
  clear hE r31 e31 hc31
  iterate 2
    apply mix_q rfl rfl
    · intro W hW
      have hcW := (bcell hW).1
      go_simp
      try exact rfl
    simp only [Act.put, List.setIfInBounds_toArray, List.set_cons_zero, List.set_cons_succ]
  iterate 4
    apply mix_on rfl (wanted_is rfl rfl rfl rfl rfl)
    · intro W hW
      have hcW := (bcell hW).1
      go_simp
      try exact rfl
    simp only [Act.put, List.setIfInBounds_toArray, List.set_cons_zero, List.set_cons_succ]
  iterate 1
    apply mix_q rfl rfl
    · intro W hW
      have hcW := (bcell hW).1
      go_simp
      try exact rfl
    simp only [Act.put, List.setIfInBounds_toArray, List.set_cons_zero, List.set_cons_succ]
  refine mix_nil ?_
  clear hc16' hs16' hc17' hs17' hs1
  replace Te := hide (Te.out.trans (T.mono Te.out.size))
  replace X13 := hide (X13.out.ext T)
  replace X14 := hide (X14.out.ext T)
  replace X15 := hide (X15.out.ext T)
  replace X16 := hide (X16.out.ext T)
  replace r13 := hide (r13.out.ext T)
  replace r14 := hide (r14.out.ext T)
  replace r15 := hide (r15.out.ext T)
  replace r16 := hide (r16.out.ext T)
  clear T X17 r27 e27 hc27
  have hc13' := X13.out.cell
  have hs13' := X13.out.lt
  have hc14' := X14.out.cell
  have hs14' := X14.out.lt
  have hc15' := X15.out.cell
  have hs15' := X15.out.lt
  have hc16' := X16.out.cell
  have hs16' := X16.out.lt
  go_upto_block 0 with fail
  go_wp2
  go_loopw [104] (fun i wr => ∃ (j : Nat) (l13 l14 l15 l16 : List Nat), j ≤ 4 ∧ i = .int .i64 j ∧ Hid (Own wE 43 we.heap.size wr (.slice A13 n13 c13) l13) ∧ Hid (Own wE 43 we.heap.size wr (.slice A14 n14 c14) l14) ∧ Hid (Own wE 43 we.heap.size wr (.slice A15 n15 c15) l15) ∧ Hid (Own wE 43 we.heap.size wr (.slice A16 n16 c16) l16) ∧ Ext we wr) (fun i _ => 4 - (intOf i).toNat)
  case atStart => exact ⟨0, _, _, _, _, by omega, rfl, r13, r14, r15, r16, Te.out⟩
  case round =>
    clear r13 r14 r15 r16 Te X13 X14 X15 X16 hc13' hs13' hc14' hs14' hc15' hs15' hc16' hs16'
    obtain ⟨j, l13, l14, l15, l16, hj, rfl, O13, O14, O15, O16, T⟩ := hrel
    by_cases hj4 : j < 4
    · rcases (show j = 0 ∨ j = 1 ∨ j = 2 ∨ j = 3 by omega) with rfl | rfl | rfl | rfl
      · have hnb : n13 ≤ 160 := by rw [e13.out]; exact hlA
        have ix := index_s0 wr A13 A14 A15 A16 n13 n14 n15 n16 c13 c14 c15 c16
        have hlen : Hid (List.length l13 = n13) := hide (by obtain ⟨A', c', heq, -, -, -⟩ := O13.out.rd; injection heq with _ h _; exact h.symm)
        go_upto_region 14 with fail
        clear ix
        obtain ⟨wb, hw⟩ : ∃ x, x = World.alloc wr (.cells #[.slice A13 n13 c13] 24) := ⟨_, rfl⟩
        rw [← hw]
        have x21 : Hid (Box wb (World.heap wr).size 24 (.slice A13 n13 c13)) := hide (by rw [hw]; exact Box.new _ _ _)
        have hE : Ext wr wb := by rw [hw]; exact (Below.refl _ _).alloc (Nat.le_refl _) _
        have hlt : (World.heap wr).size < (World.heap wb).size := by rw [hw]; simp
        clear hw
        replace T := T.trans (hE.mono T.size)
        replace O13 := hide (O13.out.ext hE)
        replace O14 := hide (O14.out.ext hE)
        replace O15 := hide (O15.out.ext hE)
        replace O16 := hide (O16.out.ext hE)
        obtain ⟨p21, hp⟩ : ∃ x, x = (World.heap wr).size := ⟨_, rfl⟩
        rw [← hp] at x21 hlt ⊢
        clear hp
        have hc21 := x21.out.cell
        have hs21 := x21.out.lt
        clear hE hlt
        go_wp2
        go_loopw [110] (fun i wq => ∃ (q : Nat) (r : List Nat), q ≤ n13 ∧ i = .int .i64 q ∧ Hid (r.length = n13) ∧ Hid (Own wE 43 we.heap.size wq (.slice A13 n13 c13) r) ∧ Hid (Own wE 43 we.heap.size wq (.slice A14 n14 c14) l14) ∧ Hid (Own wE 43 we.heap.size wq (.slice A15 n15 c15) l15) ∧ Hid (Own wE 43 we.heap.size wq (.slice A16 n16 c16) l16) ∧ Hid (Box wq p21 24 (.slice A13 n13 c13)) ∧ Ext we wq) (fun i _ => n13 - (intOf i).toNat)
        case atStart => exact ⟨0, _, Nat.zero_le _, rfl, hlen, O13, O14, O15, O16, x21, T⟩
        case round =>
          clear O13 O14 O15 O16 T hc21 hs21 x21 hlen
          obtain ⟨q, r, hq, rfl, hlen, O13, O14, O15, O16, x21, T⟩ := hrel
          have hc21 := x21.out.cell
          have hs21 := x21.out.lt
          by_cases hqn : q < n13
          · have hqn' : (q : Int) < (n13 : Int) := by omega
            obtain ⟨A', c', heq, rr, -, -⟩ := O13.out.rd
            injection heq with h1' h2' h3'
            subst h1'
            clear h2' h3'
            obtain ⟨x, hx⟩ := get_some (xs := r) (i := q) (by rw [hlen.out]; exact hqn)
            obtain ⟨b', off', hA', ra'⟩ := rr.at_ (i := q) (by rw [hlen.out]; exact hqn)
            have hxc := ra'.word hx
            obtain ⟨x', hx'⟩ : ∃ x', x' = (x + 1) % 18446744073709551616 := ⟨_, rfl⟩
            have u8 : IntKind.u64.wrap ((x : Int) + 1) = (x' : Int) := by rw [IntKind.wrap_u64, hx']; omega
            obtain ⟨g, u, hgA, hg1, hg2, hg3, hg4, hS⟩ := O13.out.setWord hqn x'
            rw [hgA] at hA'
            injection hA' with hA'
            injection hA' with hA1 hA2
            subst hA1 hA2
            have hO14 := ap1.out g (by rw [hgA]; rfl)
            have hO15 := ap2.out g (by rw [hgA]; rfl)
            have hO16 := ap4.out g (by rw [hgA]; rfl)
            subst hgA
            rw [Nat.zero_add] at hxc
            have hnebox : p21 ≠ g := fun hc => by have := O13.out.ne_box x21.out (by decide); rw [hc] at this; exact this rfl
            replace hO14 := hide (ownsRow_setCell_other (a := ⟨g, q, none⟩) O14.out hO14 (.int .u64 (x' : Int)) : Own wE 43 we.heap.size (World.setCell _ ⟨g, q, none⟩ (.int .u64 (x' : Int))) (.slice A14 n14 c14) l14)
            replace hO15 := hide (ownsRow_setCell_other (a := ⟨g, q, none⟩) O15.out hO15 (.int .u64 (x' : Int)) : Own wE 43 we.heap.size (World.setCell _ ⟨g, q, none⟩ (.int .u64 (x' : Int))) (.slice A15 n15 c15) l15)
            replace hO16 := hide (ownsRow_setCell_other (a := ⟨g, q, none⟩) O16.out hO16 (.int .u64 (x' : Int)) : Own wE 43 we.heap.size (World.setCell _ ⟨g, q, none⟩ (.int .u64 (x' : Int))) (.slice A16 n16 c16) l16)
            have hx2' := hide (x21.out.far (p := ⟨g, q, none⟩) hnebox (.int .u64 (x' : Int)))
            have hT2 := T.setCell (p := ⟨g, q, none⟩) hg1 (.int .u64 (x' : Int))
            have hS2 := hide hS
            have hlen2 : Hid ((r.set q x').length = n13) := hide (by rw [List.length_set]; exact hlen.out)
            have u5 : IntKind.i64.wrap (q : Int) = (q : Int) := IntWalk.i64_in _ (by omega)
            clear hS ra' rr hg3
            replace hx := hide hx
            replace hx' := hide hx'
            go_wp2
            refine ⟨?_, ?_⟩
            · first
                | exact ⟨q + 1, _, by omega, by go_num, hlen2, hS2, hO14, hO15, hO16, hx2', hT2⟩
                | ((repeat apply Exists.intro); exact ⟨⟨q + 1, _, by omega, by go_num, hlen2, hS2, hO14, hO15, hO16, hx2', hT2⟩, rfl⟩)
            · first | (simp [intOf, lenV]; omega) | (simp [intOf]; omega) | (simp [intOf]; done)
          · have hqn' : ¬ (q : Int) < (n13 : Int) := by omega
            clear hc21 hs21
            go_wp2
            refine ⟨?_, ?_⟩
            · first
                | exact ⟨1, _, _, _, _, by omega, by go_num, O13, O14, O15, O16, T⟩
                | ((repeat apply Exists.intro); exact ⟨⟨1, _, _, _, _, by omega, by go_num, O13, O14, O15, O16, T⟩, rfl⟩)
            · first | (simp [intOf, lenV]; omega) | (simp [intOf]; omega) | (simp [intOf]; done)
      · have hnb : n14 ≤ 160 := by rw [e14.out]; exact hlM
        have ix := index_s1 wr A13 A14 A15 A16 n13 n14 n15 n16 c13 c14 c15 c16
        have hlen : Hid (List.length l14 = n14) := hide (by obtain ⟨A', c', heq, -, -, -⟩ := O14.out.rd; injection heq with _ h _; exact h.symm)
        go_upto_region 14 with fail
        clear ix
        obtain ⟨wb, hw⟩ : ∃ x, x = World.alloc wr (.cells #[.slice A14 n14 c14] 24) := ⟨_, rfl⟩
        rw [← hw]
        have x21 : Hid (Box wb (World.heap wr).size 24 (.slice A14 n14 c14)) := hide (by rw [hw]; exact Box.new _ _ _)
        have hE : Ext wr wb := by rw [hw]; exact (Below.refl _ _).alloc (Nat.le_refl _) _
        have hlt : (World.heap wr).size < (World.heap wb).size := by rw [hw]; simp
        clear hw
        replace T := T.trans (hE.mono T.size)
        replace O13 := hide (O13.out.ext hE)
        replace O14 := hide (O14.out.ext hE)
        replace O15 := hide (O15.out.ext hE)
        replace O16 := hide (O16.out.ext hE)
        obtain ⟨p21, hp⟩ : ∃ x, x = (World.heap wr).size := ⟨_, rfl⟩
        rw [← hp] at x21 hlt ⊢
        clear hp
        have hc21 := x21.out.cell
        have hs21 := x21.out.lt
        clear hE hlt
        go_wp2
        go_loopw [110] (fun i wq => ∃ (q : Nat) (r : List Nat), q ≤ n14 ∧ i = .int .i64 q ∧ Hid (r.length = n14) ∧ Hid (Own wE 43 we.heap.size wq (.slice A14 n14 c14) r) ∧ Hid (Own wE 43 we.heap.size wq (.slice A13 n13 c13) l13) ∧ Hid (Own wE 43 we.heap.size wq (.slice A15 n15 c15) l15) ∧ Hid (Own wE 43 we.heap.size wq (.slice A16 n16 c16) l16) ∧ Hid (Box wq p21 24 (.slice A14 n14 c14)) ∧ Ext we wq) (fun i _ => n14 - (intOf i).toNat)
        case atStart => exact ⟨0, _, Nat.zero_le _, rfl, hlen, O14, O13, O15, O16, x21, T⟩
        case round =>
          clear O13 O14 O15 O16 T hc21 hs21 x21 hlen
          obtain ⟨q, r, hq, rfl, hlen, O14, O13, O15, O16, x21, T⟩ := hrel
          have hc21 := x21.out.cell
          have hs21 := x21.out.lt
          by_cases hqn : q < n14
          · have hqn' : (q : Int) < (n14 : Int) := by omega
            obtain ⟨A', c', heq, rr, -, -⟩ := O14.out.rd
            injection heq with h1' h2' h3'
            subst h1'
            clear h2' h3'
            obtain ⟨x, hx⟩ := get_some (xs := r) (i := q) (by rw [hlen.out]; exact hqn)
            obtain ⟨b', off', hA', ra'⟩ := rr.at_ (i := q) (by rw [hlen.out]; exact hqn)
            have hxc := ra'.word hx
            obtain ⟨x', hx'⟩ : ∃ x', x' = (x + 1) % 18446744073709551616 := ⟨_, rfl⟩
            have u8 : IntKind.u64.wrap ((x : Int) + 1) = (x' : Int) := by rw [IntKind.wrap_u64, hx']; omega
            obtain ⟨g, u, hgA, hg1, hg2, hg3, hg4, hS⟩ := O14.out.setWord hqn x'
            rw [hgA] at hA'
            injection hA' with hA'
            injection hA' with hA1 hA2
            subst hA1 hA2
            have hO13 := (ap1.out).symm g (by rw [hgA]; rfl)
            have hO15 := ap3.out g (by rw [hgA]; rfl)
            have hO16 := ap5.out g (by rw [hgA]; rfl)
            subst hgA
            rw [Nat.zero_add] at hxc
            have hnebox : p21 ≠ g := fun hc => by have := O14.out.ne_box x21.out (by decide); rw [hc] at this; exact this rfl
            replace hO13 := hide (ownsRow_setCell_other (a := ⟨g, q, none⟩) O13.out hO13 (.int .u64 (x' : Int)) : Own wE 43 we.heap.size (World.setCell _ ⟨g, q, none⟩ (.int .u64 (x' : Int))) (.slice A13 n13 c13) l13)
            replace hO15 := hide (ownsRow_setCell_other (a := ⟨g, q, none⟩) O15.out hO15 (.int .u64 (x' : Int)) : Own wE 43 we.heap.size (World.setCell _ ⟨g, q, none⟩ (.int .u64 (x' : Int))) (.slice A15 n15 c15) l15)
            replace hO16 := hide (ownsRow_setCell_other (a := ⟨g, q, none⟩) O16.out hO16 (.int .u64 (x' : Int)) : Own wE 43 we.heap.size (World.setCell _ ⟨g, q, none⟩ (.int .u64 (x' : Int))) (.slice A16 n16 c16) l16)
            have hx2' := hide (x21.out.far (p := ⟨g, q, none⟩) hnebox (.int .u64 (x' : Int)))
            have hT2 := T.setCell (p := ⟨g, q, none⟩) hg1 (.int .u64 (x' : Int))
            have hS2 := hide hS
            have hlen2 : Hid ((r.set q x').length = n14) := hide (by rw [List.length_set]; exact hlen.out)
            have u5 : IntKind.i64.wrap (q : Int) = (q : Int) := IntWalk.i64_in _ (by omega)
            clear hS ra' rr hg3
            replace hx := hide hx
            replace hx' := hide hx'
            go_wp2
            refine ⟨?_, ?_⟩
            · first
                | exact ⟨q + 1, _, by omega, by go_num, hlen2, hS2, hO13, hO15, hO16, hx2', hT2⟩
                | ((repeat apply Exists.intro); exact ⟨⟨q + 1, _, by omega, by go_num, hlen2, hS2, hO13, hO15, hO16, hx2', hT2⟩, rfl⟩)
            · first | (simp [intOf, lenV]; omega) | (simp [intOf]; omega) | (simp [intOf]; done)
          · have hqn' : ¬ (q : Int) < (n14 : Int) := by omega
            clear hc21 hs21
            go_wp2
            refine ⟨?_, ?_⟩
            · first
                | exact ⟨2, _, _, _, _, by omega, by go_num, O13, O14, O15, O16, T⟩
                | ((repeat apply Exists.intro); exact ⟨⟨2, _, _, _, _, by omega, by go_num, O13, O14, O15, O16, T⟩, rfl⟩)
            · first | (simp [intOf, lenV]; omega) | (simp [intOf]; omega) | (simp [intOf]; done)
      · have hnb : n15 ≤ 160 := by rw [e15.out]; exact hlP
        have ix := index_s2 wr A13 A14 A15 A16 n13 n14 n15 n16 c13 c14 c15 c16
        have hlen : Hid (List.length l15 = n15) := hide (by obtain ⟨A', c', heq, -, -, -⟩ := O15.out.rd; injection heq with _ h _; exact h.symm)
        go_upto_region 14 with fail
        clear ix
        obtain ⟨wb, hw⟩ : ∃ x, x = World.alloc wr (.cells #[.slice A15 n15 c15] 24) := ⟨_, rfl⟩
        rw [← hw]
        have x21 : Hid (Box wb (World.heap wr).size 24 (.slice A15 n15 c15)) := hide (by rw [hw]; exact Box.new _ _ _)
        have hE : Ext wr wb := by rw [hw]; exact (Below.refl _ _).alloc (Nat.le_refl _) _
        have hlt : (World.heap wr).size < (World.heap wb).size := by rw [hw]; simp
        clear hw
        replace T := T.trans (hE.mono T.size)
        replace O13 := hide (O13.out.ext hE)
        replace O14 := hide (O14.out.ext hE)
        replace O15 := hide (O15.out.ext hE)
        replace O16 := hide (O16.out.ext hE)
        obtain ⟨p21, hp⟩ : ∃ x, x = (World.heap wr).size := ⟨_, rfl⟩
        rw [← hp] at x21 hlt ⊢
        clear hp
        have hc21 := x21.out.cell
        have hs21 := x21.out.lt
        clear hE hlt
        go_wp2
        go_loopw [110] (fun i wq => ∃ (q : Nat) (r : List Nat), q ≤ n15 ∧ i = .int .i64 q ∧ Hid (r.length = n15) ∧ Hid (Own wE 43 we.heap.size wq (.slice A15 n15 c15) r) ∧ Hid (Own wE 43 we.heap.size wq (.slice A13 n13 c13) l13) ∧ Hid (Own wE 43 we.heap.size wq (.slice A14 n14 c14) l14) ∧ Hid (Own wE 43 we.heap.size wq (.slice A16 n16 c16) l16) ∧ Hid (Box wq p21 24 (.slice A15 n15 c15)) ∧ Ext we wq) (fun i _ => n15 - (intOf i).toNat)
        case atStart => exact ⟨0, _, Nat.zero_le _, rfl, hlen, O15, O13, O14, O16, x21, T⟩
        case round =>
          clear O13 O14 O15 O16 T hc21 hs21 x21 hlen
          obtain ⟨q, r, hq, rfl, hlen, O15, O13, O14, O16, x21, T⟩ := hrel
          have hc21 := x21.out.cell
          have hs21 := x21.out.lt
          by_cases hqn : q < n15
          · have hqn' : (q : Int) < (n15 : Int) := by omega
            obtain ⟨A', c', heq, rr, -, -⟩ := O15.out.rd
            injection heq with h1' h2' h3'
            subst h1'
            clear h2' h3'
            obtain ⟨x, hx⟩ := get_some (xs := r) (i := q) (by rw [hlen.out]; exact hqn)
            obtain ⟨b', off', hA', ra'⟩ := rr.at_ (i := q) (by rw [hlen.out]; exact hqn)
            have hxc := ra'.word hx
            obtain ⟨x', hx'⟩ : ∃ x', x' = (x + 1) % 18446744073709551616 := ⟨_, rfl⟩
            have u8 : IntKind.u64.wrap ((x : Int) + 1) = (x' : Int) := by rw [IntKind.wrap_u64, hx']; omega
            obtain ⟨g, u, hgA, hg1, hg2, hg3, hg4, hS⟩ := O15.out.setWord hqn x'
            rw [hgA] at hA'
            injection hA' with hA'
            injection hA' with hA1 hA2
            subst hA1 hA2
            have hO13 := (ap2.out).symm g (by rw [hgA]; rfl)
            have hO14 := (ap3.out).symm g (by rw [hgA]; rfl)
            have hO16 := ap6.out g (by rw [hgA]; rfl)
            subst hgA
            rw [Nat.zero_add] at hxc
            have hnebox : p21 ≠ g := fun hc => by have := O15.out.ne_box x21.out (by decide); rw [hc] at this; exact this rfl
            replace hO13 := hide (ownsRow_setCell_other (a := ⟨g, q, none⟩) O13.out hO13 (.int .u64 (x' : Int)) : Own wE 43 we.heap.size (World.setCell _ ⟨g, q, none⟩ (.int .u64 (x' : Int))) (.slice A13 n13 c13) l13)
            replace hO14 := hide (ownsRow_setCell_other (a := ⟨g, q, none⟩) O14.out hO14 (.int .u64 (x' : Int)) : Own wE 43 we.heap.size (World.setCell _ ⟨g, q, none⟩ (.int .u64 (x' : Int))) (.slice A14 n14 c14) l14)
            replace hO16 := hide (ownsRow_setCell_other (a := ⟨g, q, none⟩) O16.out hO16 (.int .u64 (x' : Int)) : Own wE 43 we.heap.size (World.setCell _ ⟨g, q, none⟩ (.int .u64 (x' : Int))) (.slice A16 n16 c16) l16)
            have hx2' := hide (x21.out.far (p := ⟨g, q, none⟩) hnebox (.int .u64 (x' : Int)))
            have hT2 := T.setCell (p := ⟨g, q, none⟩) hg1 (.int .u64 (x' : Int))
            have hS2 := hide hS
            have hlen2 : Hid ((r.set q x').length = n15) := hide (by rw [List.length_set]; exact hlen.out)
            have u5 : IntKind.i64.wrap (q : Int) = (q : Int) := IntWalk.i64_in _ (by omega)
            clear hS ra' rr hg3
            replace hx := hide hx
            replace hx' := hide hx'
            go_wp2
            refine ⟨?_, ?_⟩
            · first
                | exact ⟨q + 1, _, by omega, by go_num, hlen2, hS2, hO13, hO14, hO16, hx2', hT2⟩
                | ((repeat apply Exists.intro); exact ⟨⟨q + 1, _, by omega, by go_num, hlen2, hS2, hO13, hO14, hO16, hx2', hT2⟩, rfl⟩)
            · first | (simp [intOf, lenV]; omega) | (simp [intOf]; omega) | (simp [intOf]; done)
          · have hqn' : ¬ (q : Int) < (n15 : Int) := by omega
            clear hc21 hs21
            go_wp2
            refine ⟨?_, ?_⟩
            · first
                | exact ⟨3, _, _, _, _, by omega, by go_num, O13, O14, O15, O16, T⟩
                | ((repeat apply Exists.intro); exact ⟨⟨3, _, _, _, _, by omega, by go_num, O13, O14, O15, O16, T⟩, rfl⟩)
            · first | (simp [intOf, lenV]; omega) | (simp [intOf]; omega) | (simp [intOf]; done)
      · have hnb : n16 ≤ 160 := by rw [e16.out]; exact hl1
        have ix := index_s3 wr A13 A14 A15 A16 n13 n14 n15 n16 c13 c14 c15 c16
        have hlen : Hid (List.length l16 = n16) := hide (by obtain ⟨A', c', heq, -, -, -⟩ := O16.out.rd; injection heq with _ h _; exact h.symm)
        go_upto_region 14 with fail
        clear ix
        obtain ⟨wb, hw⟩ : ∃ x, x = World.alloc wr (.cells #[.slice A16 n16 c16] 24) := ⟨_, rfl⟩
        rw [← hw]
        have x21 : Hid (Box wb (World.heap wr).size 24 (.slice A16 n16 c16)) := hide (by rw [hw]; exact Box.new _ _ _)
        have hE : Ext wr wb := by rw [hw]; exact (Below.refl _ _).alloc (Nat.le_refl _) _
        have hlt : (World.heap wr).size < (World.heap wb).size := by rw [hw]; simp
        clear hw
        replace T := T.trans (hE.mono T.size)
        replace O13 := hide (O13.out.ext hE)
        replace O14 := hide (O14.out.ext hE)
        replace O15 := hide (O15.out.ext hE)
        replace O16 := hide (O16.out.ext hE)
        obtain ⟨p21, hp⟩ : ∃ x, x = (World.heap wr).size := ⟨_, rfl⟩
        rw [← hp] at x21 hlt ⊢
        clear hp
        have hc21 := x21.out.cell
        have hs21 := x21.out.lt
        clear hE hlt
        go_wp2
        go_loopw [110] (fun i wq => ∃ (q : Nat) (r : List Nat), q ≤ n16 ∧ i = .int .i64 q ∧ Hid (r.length = n16) ∧ Hid (Own wE 43 we.heap.size wq (.slice A16 n16 c16) r) ∧ Hid (Own wE 43 we.heap.size wq (.slice A13 n13 c13) l13) ∧ Hid (Own wE 43 we.heap.size wq (.slice A14 n14 c14) l14) ∧ Hid (Own wE 43 we.heap.size wq (.slice A15 n15 c15) l15) ∧ Hid (Box wq p21 24 (.slice A16 n16 c16)) ∧ Ext we wq) (fun i _ => n16 - (intOf i).toNat)
        case atStart => exact ⟨0, _, Nat.zero_le _, rfl, hlen, O16, O13, O14, O15, x21, T⟩
        case round =>
          clear O13 O14 O15 O16 T hc21 hs21 x21 hlen
          obtain ⟨q, r, hq, rfl, hlen, O16, O13, O14, O15, x21, T⟩ := hrel
          have hc21 := x21.out.cell
          have hs21 := x21.out.lt
          by_cases hqn : q < n16
          · have hqn' : (q : Int) < (n16 : Int) := by omega
            obtain ⟨A', c', heq, rr, -, -⟩ := O16.out.rd
            injection heq with h1' h2' h3'
            subst h1'
            clear h2' h3'
            obtain ⟨x, hx⟩ := get_some (xs := r) (i := q) (by rw [hlen.out]; exact hqn)
            obtain ⟨b', off', hA', ra'⟩ := rr.at_ (i := q) (by rw [hlen.out]; exact hqn)
            have hxc := ra'.word hx
            obtain ⟨x', hx'⟩ : ∃ x', x' = (x + 1) % 18446744073709551616 := ⟨_, rfl⟩
            have u8 : IntKind.u64.wrap ((x : Int) + 1) = (x' : Int) := by rw [IntKind.wrap_u64, hx']; omega
            obtain ⟨g, u, hgA, hg1, hg2, hg3, hg4, hS⟩ := O16.out.setWord hqn x'
            rw [hgA] at hA'
            injection hA' with hA'
            injection hA' with hA1 hA2
            subst hA1 hA2
            have hO13 := (ap4.out).symm g (by rw [hgA]; rfl)
            have hO14 := (ap5.out).symm g (by rw [hgA]; rfl)
            have hO15 := (ap6.out).symm g (by rw [hgA]; rfl)
            subst hgA
            rw [Nat.zero_add] at hxc
            have hnebox : p21 ≠ g := fun hc => by have := O16.out.ne_box x21.out (by decide); rw [hc] at this; exact this rfl
            replace hO13 := hide (ownsRow_setCell_other (a := ⟨g, q, none⟩) O13.out hO13 (.int .u64 (x' : Int)) : Own wE 43 we.heap.size (World.setCell _ ⟨g, q, none⟩ (.int .u64 (x' : Int))) (.slice A13 n13 c13) l13)
            replace hO14 := hide (ownsRow_setCell_other (a := ⟨g, q, none⟩) O14.out hO14 (.int .u64 (x' : Int)) : Own wE 43 we.heap.size (World.setCell _ ⟨g, q, none⟩ (.int .u64 (x' : Int))) (.slice A14 n14 c14) l14)
            replace hO15 := hide (ownsRow_setCell_other (a := ⟨g, q, none⟩) O15.out hO15 (.int .u64 (x' : Int)) : Own wE 43 we.heap.size (World.setCell _ ⟨g, q, none⟩ (.int .u64 (x' : Int))) (.slice A15 n15 c15) l15)
            have hx2' := hide (x21.out.far (p := ⟨g, q, none⟩) hnebox (.int .u64 (x' : Int)))
            have hT2 := T.setCell (p := ⟨g, q, none⟩) hg1 (.int .u64 (x' : Int))
            have hS2 := hide hS
            have hlen2 : Hid ((r.set q x').length = n16) := hide (by rw [List.length_set]; exact hlen.out)
            have u5 : IntKind.i64.wrap (q : Int) = (q : Int) := IntWalk.i64_in _ (by omega)
            clear hS ra' rr hg3
            replace hx := hide hx
            replace hx' := hide hx'
            go_wp2
            refine ⟨?_, ?_⟩
            · first
                | exact ⟨q + 1, _, by omega, by go_num, hlen2, hS2, hO13, hO14, hO15, hx2', hT2⟩
                | ((repeat apply Exists.intro); exact ⟨⟨q + 1, _, by omega, by go_num, hlen2, hS2, hO13, hO14, hO15, hx2', hT2⟩, rfl⟩)
            · first | (simp [intOf, lenV]; omega) | (simp [intOf]; omega) | (simp [intOf]; done)
          · have hqn' : ¬ (q : Int) < (n16 : Int) := by omega
            clear hc21 hs21
            go_wp2
            refine ⟨?_, ?_⟩
            · first
                | exact ⟨4, _, _, _, _, by omega, by go_num, O13, O14, O15, O16, T⟩
                | ((repeat apply Exists.intro); exact ⟨⟨4, _, _, _, _, by omega, by go_num, O13, O14, O15, O16, T⟩, rfl⟩)
            · first | (simp [intOf, lenV]; omega) | (simp [intOf]; omega) | (simp [intOf]; done)
    · obtain rfl : j = 4 := by omega
      clear O13 O14 O15 O16 ap1 ap2 ap3 ap4 ap5 ap6
      have T0 := hide (T1e.out.trans (T.mono T1e.out.size))
      have X7 := hide (X7e.out.ext T)
      have r7 := hide (r7e.out.ext T)
      have X8 := hide (X8e.out.ext T)
      have r8 := hide (r8e.out.ext T)
      have X9 := hide (X9e.out.ext T)
      have r9 := hide (r9e.out.ext T)
      have X3 := hide (x3.out.ext T0.out)
      have X4 := hide (x4.out.ext T0.out)
      have X5 := hide (x5.out.ext T0.out)
      have Q1 := hide (q1.out.ext T0.out)
      have Q2 := hide (q2.out.ext T0.out)
      have Q3 := hide (q3.out.ext T0.out)
      clear T
      have hc3' := X3.out.cell
      have hs3' := X3.out.lt
      have hc4' := X4.out.cell
      have hs4' := X4.out.lt
      have hc5' := X5.out.cell
      have hs5' := X5.out.lt
      have hc7' := X7.out.cell
      have hs7' := X7.out.lt
      have hc8' := X8.out.cell
      have hs8' := X8.out.lt
      have hc9' := X9.out.cell
      have hs9' := X9.out.lt
      go_upto_region 20 with fail
      have T : Ext wr wr.drew := (Below.refl _ _).drew
      refine wp_region_mix (fun W => Below wr.heap.size wr W) [(0, true), (1, true), (2, false), (3, false), (4, true), (5, true), (6, true), (7, false), (8, false), (9, true), (10, true), (11, true), (12, true), (13, false), (14, false), (15, true), (16, true)] (by kernel_rfl) (by kernel_rfl) (by kernel_rfl) (by kernel_rfl) (fun _ _ d _ _ h => by cases d <;> exact h) ?_ ?_
      · exact T
      obtain ⟨wl, hwh⟩ : ∃ x, x = wr.drew := ⟨_, rfl⟩
      rw [← hwh] at T ⊢
      clear hwh
      iterate 2
        apply mix_q rfl rfl
        · intro W hW
          have hcW := (bcell hW).1
          go_simp
          try exact rfl
        simp only [Act.put, List.setIfInBounds_toArray, List.set_cons_zero, List.set_cons_succ]
      refine mix_w rfl rfl (fun K hK => ?_)
      go_simp
      refine (own_any A1 n1 c1 xs _ (Q1.out.ext T) hn1.out hc1).mono ?_
      rintro e w40 ⟨v, rfl, hO, hE⟩
      refine hK _ _ (T.trans (hE.mono T.size)) ?_
      clear hK K
      try simp only [Act.put, List.setIfInBounds_toArray, List.set_cons_zero, List.set_cons_succ]
      replace T := T.trans (hE.mono T.size)
      rw [← ha.out] at hO
      obtain ⟨A33, c33, rfl, -, hc33, -⟩ := hO.rd
      obtain ⟨n33, e33⟩ : ∃ m, m = (List.length a) := ⟨_, rfl⟩
      rw [← e33] at hc33 ⊢
      have r33 := hO.base_le (Nat.zero_le _)
      rw [← e33] at r33
      replace r33 := hide r33
      replace e33 := hide e33
      clear hO hE
      refine mix_w rfl rfl (fun K hK => ?_)
      go_simp
      refine (refSame_any A7 A33 n7 c7 n33 c33 a a _ (rdO (r7.out.ext T)) e7.out (by have := e7.out; omega) (rdO r33.out) e33.out).mono ?_
      rintro e w41 ⟨rfl, hE⟩
      refine hK _ _ (T.trans (hE.mono T.size)) ?_
      clear hK K
      try simp only [Act.put, List.setIfInBounds_toArray, List.set_cons_zero, List.set_cons_succ]
      replace T := T.trans (hE.mono T.size)
      clear hE r33 e33 hc33
      iterate 1
        apply mix_q rfl rfl
        · intro W hW
          have hcW := (bcell hW).1
          go_simp
          try exact rfl
        simp only [Act.put, List.setIfInBounds_toArray, List.set_cons_zero, List.set_cons_succ]
      iterate 2
        apply mix_on rfl (wanted_is rfl rfl rfl rfl rfl)
        · intro W hW
          have hcW := (bcell hW).1
          go_simp
          try exact rfl
        simp only [Act.put, List.setIfInBounds_toArray, List.set_cons_zero, List.set_cons_succ]
      refine mix_won rfl (wanted_is rfl rfl rfl rfl rfl) (fun K hK => ?_)
      go_simp
      refine (own_any A2 n2 c2 ys _ (Q2.out.ext T) hn2.out hc2).mono ?_
      rintro e w42 ⟨v, rfl, hO, hE⟩
      refine hK _ _ (T.trans (hE.mono T.size)) ?_
      clear hK K
      try simp only [Act.put, List.setIfInBounds_toArray, List.set_cons_zero, List.set_cons_succ]
      replace T := T.trans (hE.mono T.size)
      rw [← hb.out] at hO
      obtain ⟨A33, c33, rfl, -, hc33, -⟩ := hO.rd
      obtain ⟨n33, e33⟩ : ∃ m, m = (List.length b) := ⟨_, rfl⟩
      rw [← e33] at hc33 ⊢
      have r33 := hO.base_le (Nat.zero_le _)
      rw [← e33] at r33
      replace r33 := hide r33
      replace e33 := hide e33
      clear hO hE
      refine mix_won rfl (wanted_is rfl rfl rfl rfl rfl) (fun K hK => ?_)
      go_simp
      refine (refSame_any A8 A33 n8 c8 n33 c33 b b _ (rdO (r8.out.ext T)) e8.out (by have := e8.out; omega) (rdO r33.out) e33.out).mono ?_
      rintro e w43 ⟨rfl, hE⟩
      refine hK _ _ (T.trans (hE.mono T.size)) ?_
      clear hK K
      try simp only [Act.put, List.setIfInBounds_toArray, List.set_cons_zero, List.set_cons_succ]
      replace T := T.trans (hE.mono T.size)
      clear hE r33 e33 hc33
      iterate 2
        apply mix_q rfl rfl
        · intro W hW
          have hcW := (bcell hW).1
          go_simp
          try exact rfl
        simp only [Act.put, List.setIfInBounds_toArray, List.set_cons_zero, List.set_cons_succ]
      iterate 2
        apply mix_on rfl (wanted_is rfl rfl rfl rfl rfl)
        · intro W hW
          have hcW := (bcell hW).1
          go_simp
          try exact rfl
        simp only [Act.put, List.setIfInBounds_toArray, List.set_cons_zero, List.set_cons_succ]
      refine mix_won rfl (wanted_is rfl rfl rfl rfl rfl) (fun K hK => ?_)
      go_simp
      refine (own_any A3 n3 c3 zs _ (Q3.out.ext T) hn3.out hc3).mono ?_
      rintro e w44 ⟨v, rfl, hO, hE⟩
      refine hK _ _ (T.trans (hE.mono T.size)) ?_
      clear hK K
      try simp only [Act.put, List.setIfInBounds_toArray, List.set_cons_zero, List.set_cons_succ]
      replace T := T.trans (hE.mono T.size)
      rw [← hc.out] at hO
      obtain ⟨A33, c33, rfl, -, hc33, -⟩ := hO.rd
      obtain ⟨n33, e33⟩ : ∃ m, m = (List.length c) := ⟨_, rfl⟩
      rw [← e33] at hc33 ⊢
      have r33 := hO.base_le (Nat.zero_le _)
      rw [← e33] at r33
      replace r33 := hide r33
      replace e33 := hide e33
      clear hO hE
      refine mix_won rfl (wanted_is rfl rfl rfl rfl rfl) (fun K hK => ?_)
      go_simp
      refine (refSame_any A9 A33 n9 c9 n33 c33 c c _ (rdO (r9.out.ext T)) e9.out (by have := e9.out; omega) (rdO r33.out) e33.out).mono ?_
      rintro e w45 ⟨rfl, hE⟩
      refine hK _ _ (T.trans (hE.mono T.size)) ?_
      clear hK K
      try simp only [Act.put, List.setIfInBounds_toArray, List.set_cons_zero, List.set_cons_succ]
      replace T := T.trans (hE.mono T.size)
      clear hE r33 e33 hc33
      iterate 2
        apply mix_q rfl rfl
        · intro W hW
          have hcW := (bcell hW).1
          go_simp
          try exact rfl
        simp only [Act.put, List.setIfInBounds_toArray, List.set_cons_zero, List.set_cons_succ]
      refine mix_nil ?_
      go_wp2
      go_ret
      exact ⟨rfl, hB1.out.trans ((T0.out.trans (T.mono T0.out.size)).mono hB1.out.size)⟩
end Go.Proofs.YtkiklbngfocljaaDoor
