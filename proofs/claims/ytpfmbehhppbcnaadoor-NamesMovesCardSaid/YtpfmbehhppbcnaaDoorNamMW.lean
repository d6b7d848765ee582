/- NamesMoves: the walk. -/
import Derived.Test.YtpfmbehhppbcnaaDoorNamMP
import Derived.Test.YtpfmbehhppbcnaaDoorFlt
namespace Go.Proofs.YtpfmbehhppbcnaaDoor
open Go.RowKit

set_option maxRecDepth 100000 in
set_option maxHeartbeats 8000000 in
theorem namesMoves_any (A1 A2 A3 : Option Addr) (n1 c1 n2 c2 n3 c3 : Nat) (xs ys zs : List ByteArray) (w : World) (hn1 : n1 = xs.length) (hc1 : n1 ≤ c1) (h1 : Rd strE w.heap.size w A1 xs) (hfx : ∀ x ∈ xs, x.size ≤ maxLen)
    (hn2 : n2 = ys.length) (hc2 : n2 ≤ c2) (h2 : Rd strE w.heap.size w A2 ys) (hfy : ∀ x ∈ ys, x.size ≤ maxLen) (hn3 : n3 = zs.length) (hc3 : n3 ≤ c3) (h3 : Rd strE w.heap.size w A3 zs) (hfz : ∀ x ∈ zs, x.size ≤ maxLen) (hL : LaidU w) :
    Calls Tryd.prog 4 #[.agg #[.slice A1 n1 c1], .agg #[.slice A2 n2 c2], .agg #[.slice A3 n3 c3]] w fun e w' => e = .returned (.bool true) ∧ Ext w w' := by
  replace h1 := hide h1
  replace hn1 := hide hn1
  replace h2 := hide h2
  replace hn2 := hide hn2
  replace h3 := hide h3
  replace hn3 := hide hn3
  replace hL := hide hL
  go_enter Tryd.func4, Tryd.ntmps4
  go_upto_region 1 with fail
  obtain ⟨w0, hw0⟩ : ∃ w0, w0 = ((w.alloc (.cells #[.slice A1 n1 c1] 27)).alloc (.cells #[.slice A2 n2 c2] 27)).alloc (.cells #[.slice A3 n3 c3] 27) := ⟨_, rfl⟩
  rw [← hw0]
  have hE0 : Ext w w0 := by rw [hw0]; exact (((Below.refl _ _).alloc (Nat.le_refl _) _).alloc (by simp) _).alloc (by simp; omega) _
  have x3 : Hid (Box w0 w.heap.size 27 (.slice A1 n1 c1)) := hide (by rw [hw0]; exact ((Box.new w _ _).alloc _).alloc _)
  have x4 : Hid (Box w0 (w.heap.size + 1) 27 (.slice A2 n2 c2)) := hide (by
    rw [hw0]
    have := Box.new (w.alloc (.cells #[.slice A1 n1 c1] 27)) 27 (.slice A2 n2 c2)
    rw [World.size_alloc] at this
    exact this.alloc _)
  have x5 : Hid (Box w0 (w.heap.size + 1 + 1) 27 (.slice A3 n3 c3)) := hide (by
    rw [hw0]
    have := Box.new ((w.alloc (.cells #[.slice A1 n1 c1] 27)).alloc (.cells #[.slice A2 n2 c2] 27)) 27 (.slice A3 n3 c3)
    rw [World.size_alloc, World.size_alloc] at this
    exact this)
  clear hw0
  obtain ⟨p3, hp3⟩ : ∃ b, b = w.heap.size := ⟨_, rfl⟩
  rw [← hp3] at x3 x4 x5 ⊢
  obtain ⟨p4, hp4⟩ : ∃ b, b = p3 + 1 := ⟨_, rfl⟩
  rw [← hp4] at x4 x5 ⊢
  obtain ⟨p5, hp5⟩ : ∃ b, b = p4 + 1 := ⟨_, rfl⟩
  rw [← hp5] at x5 ⊢
  clear hp3 hp4 hp5
  go_wp2_with fail
  refine (wakes_any _ (hL.out.ext hE0)).mono ?_
  rintro e w1 ⟨rfl, hE1⟩
  replace x3 := hide (x3.out.ext hE1)
  replace x4 := hide (x4.out.ext hE1)
  replace x5 := hide (x5.out.ext hE1)
  have hB := hide (hE0.trans (hE1.mono hE0.size))
  replace h1 := hide (h1.out.ext hB.out)
  replace h2 := hide (h2.out.ext hB.out)
  replace h3 := hide (h3.out.ext hB.out)
  replace hL := hide (hL.out.ext hB.out)
  clear hE0 hE1
  have hc3' := x3.out.cell
  have hs3' := x3.out.lt
  have hc4' := x4.out.cell
  have hs4' := x4.out.lt
  have hc5' := x5.out.cell
  have hs5' := x5.out.lt
  go_upto_region 3 with fail
  refine wp_region_flt [(some 7, 6), (some 8, 7), (some 9, 8)] (fun _ => .cells #[.slice none 0 0] 27) [(0, true), (2, true), (4, true), (1, false), (3, false), (5, false)] [(9, false), (10, false), (11, false)] (fun _ => undef) (by kernel_rfl) (by kernel_rfl) (by kernel_rfl) (by kernel_rfl) (by kernel_rfl) (fun _ _ d _ _ h => by cases d <;> exact h) ?_ rfl ?_
  · refine floats_of (by kernel_rfl) ?_ (by decide) (by decide) (by decide)
    intro p hp
    simp only [List.mem_cons, List.not_mem_nil, or_false] at hp
    rcases hp with rfl | rfl | rfl
    all_goals
      intro K a w h
      refine flt_lay rfl rfl ?_
      go_simp
      exact h
  obtain ⟨wd, hwd⟩ : ∃ x, x = w1.drew := ⟨_, rfl⟩
  rw [← hwd]
  have hEd : Ext w1 wd := by rw [hwd]; exact (Below.refl _ _).drew
  clear hwd
  replace hc3' := (x3.out.ext hEd).cell
  replace hs3' := (x3.out.ext hEd).lt
  replace hc4' := (x4.out.ext hEd).cell
  replace hs4' := (x4.out.ext hEd).lt
  replace hc5' := (x5.out.ext hEd).cell
  replace hs5' := (x5.out.ext hEd).lt
  replace h1 := hide (h1.out.ext hEd)
  replace h2 := hide (h2.out.ext hEd)
  replace h3 := hide (h3.out.ext hEd)
  replace hL := hide (hL.out.ext hEd)
  replace hB := hide (hB.out.trans (hEd.mono hB.out.size))
  clear hEd x3 x4 x5
  have T : Ext wd wd := Below.refl _ _
  iterate 3
    apply flt_q rfl rfl
    · intro x W hW
      have hcW : ∀ (b o : Nat), b < (World.heap wd).size → W.cell? ⟨b, o, none⟩ = World.cell? wd ⟨b, o, none⟩ := (bcell hW).1
      simp only [puts, Act.put, List.setIfInBounds_toArray, List.set_cons_zero, List.set_cons_succ]
      go_simp
      try exact rfl
    simp only [Act.put, List.setIfInBounds_toArray, List.set_cons_zero, List.set_cons_succ]
  have hfa : ∀ x ∈ xs.take 301, x.size ≤ maxLen := fun x hx => hfx x (List.mem_of_mem_take hx)
  have hla : (xs.take 301).length ≤ 301 := by rw [List.length_take]; omega
  have hfb : ∀ x ∈ ys.take 301, x.size ≤ maxLen := fun x hx => hfy x (List.mem_of_mem_take hx)
  have hlb : (ys.take 301).length ≤ 301 := by rw [List.length_take]; omega
  have hfc : ∀ x ∈ zs.take 301, x.size ≤ maxLen := fun x hx => hfz x (List.mem_of_mem_take hx)
  have hlc : (zs.take 301).length ≤ 301 := by rw [List.length_take]; omega
  have ⟨a, ha⟩ : ∃ a, a = xs.take 301 := ⟨_, rfl⟩
  have ⟨b, hb⟩ : ∃ b, b = ys.take 301 := ⟨_, rfl⟩
  have ⟨c, hc⟩ : ∃ c, c = zs.take 301 := ⟨_, rfl⟩
  rw [← ha] at hfa hla
  rw [← hb] at hfb hlb
  rw [← hc] at hfc hlc
  refine flt_w rfl rfl fun W x hE K hK => ?_
  simp only [puts, Act.put, List.setIfInBounds_toArray, List.set_cons_zero, List.set_cons_succ]
  go_simp
  replace T := T.trans (hE.mono T.size)
  refine (own_any A1 n1 c1 xs _ (h1.out.ext T) hn1.out hc1).mono ?_
  rintro e w2 ⟨v, rfl, hO, hE2⟩
  refine hK _ _ hE2 (by simp only [puts, Act.put, List.setIfInBounds_toArray, List.set_cons_zero, List.set_cons_succ]) ?_
  clear hK K
  replace T := T.trans (hE2.mono T.size)
  try simp only [Act.put, List.setIfInBounds_toArray, List.set_cons_zero, List.set_cons_succ]
  rw [← ha] at hO
  obtain ⟨A7, c7, rfl, -, hc7, -⟩ := hO.rd
  obtain ⟨n7, e7⟩ : ∃ m, m = (List.length a) := ⟨_, rfl⟩
  rw [← e7] at hc7 ⊢
  have r7 := hO.base_le (Nat.zero_le _)
  rw [← e7] at r7
  replace r7 := hide r7
  replace e7 := hide e7
  clear hO hE hE2
  refine flt_w rfl rfl fun W x hE K hK => ?_
  simp only [puts, Act.put, List.setIfInBounds_toArray, List.set_cons_zero, List.set_cons_succ]
  go_simp
  replace T := T.trans (hE.mono T.size)
  refine (own_any A2 n2 c2 ys _ (h2.out.ext T) hn2.out hc2).mono ?_
  rintro e w3 ⟨v, rfl, hO, hE2⟩
  refine hK _ _ hE2 (by simp only [puts, Act.put, List.setIfInBounds_toArray, List.set_cons_zero, List.set_cons_succ]) ?_
  clear hK K
  replace T := T.trans (hE2.mono T.size)
  try simp only [Act.put, List.setIfInBounds_toArray, List.set_cons_zero, List.set_cons_succ]
  rw [← hb] at hO
  replace r7 := hide ((r7.out.ext hE).ext hE2)
  obtain ⟨A8, c8, rfl, -, hc8, -⟩ := hO.rd
  obtain ⟨n8, e8⟩ : ∃ m, m = (List.length b) := ⟨_, rfl⟩
  rw [← e8] at hc8 ⊢
  have r8 := hO.base_le (Nat.zero_le _)
  rw [← e8] at r8
  replace r8 := hide r8
  replace e8 := hide e8
  clear hO hE hE2
  refine flt_w rfl rfl fun W x hE K hK => ?_
  simp only [puts, Act.put, List.setIfInBounds_toArray, List.set_cons_zero, List.set_cons_succ]
  go_simp
  replace T := T.trans (hE.mono T.size)
  refine (own_any A3 n3 c3 zs _ (h3.out.ext T) hn3.out hc3).mono ?_
  rintro e w4 ⟨v, rfl, hO, hE2⟩
  refine hK _ _ hE2 (by simp only [puts, Act.put, List.setIfInBounds_toArray, List.set_cons_zero, List.set_cons_succ]) ?_
  clear hK K
  replace T := T.trans (hE2.mono T.size)
  try simp only [Act.put, List.setIfInBounds_toArray, List.set_cons_zero, List.set_cons_succ]
  rw [← hc] at hO
  replace r7 := hide ((r7.out.ext hE).ext hE2)
  replace r8 := hide ((r8.out.ext hE).ext hE2)
  obtain ⟨A9, c9, rfl, -, hc9, -⟩ := hO.rd
  obtain ⟨n9, e9⟩ : ∃ m, m = (List.length c) := ⟨_, rfl⟩
  rw [← e9] at hc9 ⊢
  have r9 := hO.base_le (Nat.zero_le _)
  rw [← e9] at r9
  replace r9 := hide r9
  replace e9 := hide e9
  clear hE hE2
  refine flt_end fun W x hE hA => ?_
  simp only [puts, Act.put, List.setIfInBounds_toArray, List.set_cons_zero, List.set_cons_succ]
  obtain ⟨p7, e1, X7, l7⟩ := hA.1 6 (by simp)
  obtain ⟨p8, e2, X8, l8⟩ := hA.1 7 (by simp)
  obtain ⟨p9, e3, X9, l9⟩ := hA.1 8 (by simp)
  have d78 : p7 ≠ p8 := fun h => hA.2 6 (by simp) 7 (by simp) (by decide) (by rw [e1, e2, h])
  have d79 : p7 ≠ p9 := fun h => hA.2 6 (by simp) 8 (by simp) (by decide) (by rw [e1, e3, h])
  have d89 : p8 ≠ p9 := fun h => hA.2 7 (by simp) 8 (by simp) (by decide) (by rw [e2, e3, h])
  rw [e1, e2, e3]
  replace X7 : Hid (Box W p7 27 (.slice none 0 0)) := hide X7
  replace X8 : Hid (Box W p8 27 (.slice none 0 0)) := hide X8
  replace X9 : Hid (Box W p9 27 (.slice none 0 0)) := hide X9
  replace r7 := hide (r7.out.ext hE)
  replace r8 := hide (r8.out.ext hE)
  replace r9 := hide (r9.out.ext hE)
  replace T := T.trans (hE.mono T.size)
  replace l7 : wd.heap.size ≤ p7 := l7
  replace l8 : wd.heap.size ≤ p8 := l8
  replace l9 : wd.heap.size ≤ p9 := l9
  clear hA hE e1 e2 e3
  have hcb := X7.out.cell
  have hfb := X7.out.free
  have hsb := X7.out.lt
  refine mix_w rfl rfl (fun K hK => ?_)
  go_simp
  refine hK _ _ ?_ ?_
  · exact T.setCell (p := ⟨p7, 0, none⟩) l7 _
  clear hK K
  try simp only [Act.put, List.setIfInBounds_toArray, List.set_cons_zero, List.set_cons_succ]
  obtain ⟨w5, hN⟩ : ∃ x, x = World.setCell W ⟨p7, 0, none⟩ (.slice A7 n7 c7) := ⟨_, rfl⟩
  rw [← hN]
  replace T : Ext wd w5 := by rw [hN]; exact T.setCell (p := ⟨p7, 0, none⟩) l7 _
  replace r7 := hide (by rw [hN]; exact r7.out.set X7.out (by decide) _ : Own strE 9 0 w5 (.slice A7 n7 c7) a)
  replace r8 := hide (by rw [hN]; exact r8.out.set X7.out (by decide) _ : Own strE 9 0 w5 (.slice A8 n8 c8) b)
  replace r9 := hide (by rw [hN]; exact r9.out.set X7.out (by decide) _ : Own strE 9 0 w5 (.slice A9 n9 c9) c)
  replace X7 : Hid (Box w5 p7 27 (.slice A7 n7 c7)) := hide (by rw [hN]; exact X7.out.set _)
  replace X8 := hide (by rw [hN]; exact X8.out.far (p := ⟨p7, 0, none⟩) (Ne.symm d78) _ : Box w5 p8 27 (.slice none 0 0))
  replace X9 := hide (by rw [hN]; exact X9.out.far (p := ⟨p7, 0, none⟩) (Ne.symm d79) _ : Box w5 p9 27 (.slice none 0 0))
  clear hN hcb hfb hsb
  have hcb := X8.out.cell
  have hfb := X8.out.free
  have hsb := X8.out.lt
  refine mix_w rfl rfl (fun K hK => ?_)
  go_simp
  refine hK _ _ ?_ ?_
  · exact T.setCell (p := ⟨p8, 0, none⟩) l8 _
  clear hK K
  try simp only [Act.put, List.setIfInBounds_toArray, List.set_cons_zero, List.set_cons_succ]
  obtain ⟨w6, hN⟩ : ∃ x, x = World.setCell w5 ⟨p8, 0, none⟩ (.slice A8 n8 c8) := ⟨_, rfl⟩
  rw [← hN]
  replace T : Ext wd w6 := by rw [hN]; exact T.setCell (p := ⟨p8, 0, none⟩) l8 _
  replace r7 := hide (by rw [hN]; exact r7.out.set X8.out (by decide) _ : Own strE 9 0 w6 (.slice A7 n7 c7) a)
  replace r8 := hide (by rw [hN]; exact r8.out.set X8.out (by decide) _ : Own strE 9 0 w6 (.slice A8 n8 c8) b)
  replace r9 := hide (by rw [hN]; exact r9.out.set X8.out (by decide) _ : Own strE 9 0 w6 (.slice A9 n9 c9) c)
  replace X8 : Hid (Box w6 p8 27 (.slice A8 n8 c8)) := hide (by rw [hN]; exact X8.out.set _)
  replace X7 := hide (by rw [hN]; exact X7.out.far (p := ⟨p8, 0, none⟩) d78 _ : Box w6 p7 27 (.slice A7 n7 c7))
  replace X9 := hide (by rw [hN]; exact X9.out.far (p := ⟨p8, 0, none⟩) (Ne.symm d89) _ : Box w6 p9 27 (.slice none 0 0))
  clear hN hcb hfb hsb
  have hcb := X9.out.cell
  have hfb := X9.out.free
  have hsb := X9.out.lt
  refine mix_w rfl rfl (fun K hK => ?_)
  go_simp
  refine hK _ _ ?_ ?_
  · exact T.setCell (p := ⟨p9, 0, none⟩) l9 _
  clear hK K
  try simp only [Act.put, List.setIfInBounds_toArray, List.set_cons_zero, List.set_cons_succ]
  obtain ⟨w7, hN⟩ : ∃ x, x = World.setCell w6 ⟨p9, 0, none⟩ (.slice A9 n9 c9) := ⟨_, rfl⟩
  rw [← hN]
  replace T : Ext wd w7 := by rw [hN]; exact T.setCell (p := ⟨p9, 0, none⟩) l9 _
  replace r7 := hide (by rw [hN]; exact r7.out.set X9.out (by decide) _ : Own strE 9 0 w7 (.slice A7 n7 c7) a)
  replace r8 := hide (by rw [hN]; exact r8.out.set X9.out (by decide) _ : Own strE 9 0 w7 (.slice A8 n8 c8) b)
  replace r9 := hide (by rw [hN]; exact r9.out.set X9.out (by decide) _ : Own strE 9 0 w7 (.slice A9 n9 c9) c)
  replace X9 : Hid (Box w7 p9 27 (.slice A9 n9 c9)) := hide (by rw [hN]; exact X9.out.set _)
  replace X7 := hide (by rw [hN]; exact X7.out.far (p := ⟨p9, 0, none⟩) d79 _ : Box w7 p7 27 (.slice A7 n7 c7))
  replace X8 := hide (by rw [hN]; exact X8.out.far (p := ⟨p9, 0, none⟩) d89 _ : Box w7 p8 27 (.slice A8 n8 c8))
  clear hN hcb hfb hsb
  refine mix_nil ?_
  have hBw := hide (hB.out.trans (T.mono hB.out.size))
  have hL0 := hL
  replace hL := hide (hL.out.ext T)
  clear hB T h1 h2 h3 hn1 hn2 hn3 hc1 hc2 hc3 hfx hfy hfz ha hb hc l7 l8 l9 hc3' hs3' hc4' hs4' hc5' hs5' hL0 d78 d79 d89
  replace r7 := hide (rdO r7.out)
  replace r8 := hide (rdO r8.out)
  replace r9 := hide (rdO r9.out)
  have hl7 : n7 ≤ 1000000 := by have := e7.out; omega
  have hl8 : n8 ≤ 1000000 := by have := e8.out; omega
  have hl9 : n9 ≤ 1000000 := by have := e9.out; omega
  have k7 := X7.out.cell
  have s7 := X7.out.lt
  obtain ⟨m1, hm1⟩ : ∃ m, m = moveE a a := ⟨_, rfl⟩
  obtain ⟨la, hla1⟩ : ∃ l, l = moveL a a := ⟨_, rfl⟩
  replace hm1 := hide hm1
  replace hla1 := hide hla1
  go_wp2_with fail
  refine (move_any A7 A7 n7 c7 n7 c7 a a _ r7.out e7.out hl7 hfa r7.out e7.out hl7 hfa hL.out).mono ?_
  rintro e w8 ⟨v, rfl, hO, hE⟩
  rw [← hla1.out] at hO
  rw [← hm1.out]
  obtain ⟨A10, c10, rfl, r10, hc10, -⟩ := hO.rd
  obtain ⟨n10, e10⟩ : ∃ m, m = (List.length la) := ⟨_, rfl⟩
  rw [← e10] at hc10 ⊢
  replace r10 := hide r10
  replace e10 := hide e10
  clear hO
  replace hB := hide (hBw.out.trans (hE.mono hBw.out.size))
  replace hL := hide (hL.out.ext hE)
  replace r7 := hide (r7.out.ext hE)
  replace r8 := hide (r8.out.ext hE)
  replace r9 := hide (r9.out.ext hE)
  replace X7 := hide (X7.out.ext hE)
  replace X8 := hide (X8.out.ext hE)
  replace X9 := hide (X9.out.ext hE)
  clear hE hBw k7 s7
  have k7 := X7.out.cell
  have s7 := X7.out.lt
  by_cases hz : m1 = 0
  · have hz' : (m1 == 0) = true := by rw [hz]; rfl
    subst hz
    clear hz'
    have g10 : n10 ≤ 1000000 := by
      have h0 : n10 = n7 := by rw [e10.out, hla1.out, moveL_len hm1.out.symm, e7.out]
      omega
    go_wp2
    go_loopw [48] (fun i wr => ∃ k : Nat, k ≤ n10 ∧ i = .int .i64 k ∧ wr = w8) (fun i _ => n10 - (intOf i).toNat)
    case atStart => exact ⟨0, Nat.zero_le _, rfl, rfl⟩
    case round =>
      obtain ⟨k, hk, rfl, rfl⟩ := hrel
      by_cases hlt : k < n10
      · have hlt' : (k : Int) < (n10 : Int) := by omega
        obtain ⟨bk, off, rfl, ra⟩ := r10.out.at_ (i := k) (by rw [← e10.out]; exact hlt)
        obtain ⟨z, hzz⟩ := get_some (xs := la) (i := k) (by rw [← e10.out]; exact hlt)
        have hzc := ra.int hzz
        have hbr := ra.1
        have hzk : z = (k : Int) := self_at hm1.out.symm (by rw [← hla1.out]; exact hzz)
        subst hzk
        replace hzz := hide hzz
        replace ra := hide ra
        go_wp2
        refine ⟨?_, ?_⟩
        · first
            | exact ⟨k + 1, by omega, by go_num, trivial⟩
            | ((repeat apply Exists.intro); exact ⟨⟨k + 1, by omega, by go_num, trivial⟩, rfl⟩)
        · first | (simp [intOf, lenV]; omega) | (simp [intOf]; omega) | (simp [intOf]; done)
      · have hlt' : ¬ (k : Int) < (n10 : Int) := by omega
        clear hk
        have k8 := X8.out.cell
        have s8 := X8.out.lt
        have k9 := X9.out.cell
        have s9 := X9.out.lt
        obtain ⟨m2, hm2⟩ : ∃ m, m = moveE a b := ⟨_, rfl⟩
        obtain ⟨lb, hlb1⟩ : ∃ l, l = moveL a b := ⟨_, rfl⟩
        obtain ⟨m3, hm3⟩ : ∃ m, m = moveE b c := ⟨_, rfl⟩
        obtain ⟨lc, hlc1⟩ : ∃ l, l = moveL b c := ⟨_, rfl⟩
        obtain ⟨m4, hm4⟩ : ∃ m, m = moveE a c := ⟨_, rfl⟩
        obtain ⟨ld, hld1⟩ : ∃ l, l = moveL a c := ⟨_, rfl⟩
        replace hm2 := hide hm2
        replace hlb1 := hide hlb1
        replace hm3 := hide hm3
        replace hlc1 := hide hlc1
        replace hm4 := hide hm4
        replace hld1 := hide hld1
        clear r10 hc10
        go_wp2_with fail
        refine (move_any A7 A8 n7 c7 n8 c8 a b _ r7.out e7.out hl7 hfa r8.out e8.out hl8 hfb hL.out).mono ?_
        rintro e w9 ⟨v, rfl, hO, hE⟩
        rw [← hlb1.out] at hO
        rw [← hm2.out]
        obtain ⟨A14, c14, rfl, r14, hc14, -⟩ := hO.rd
        obtain ⟨n14, e14⟩ : ∃ m, m = (List.length lb) := ⟨_, rfl⟩
        rw [← e14] at hc14 ⊢
        replace r14 := hide r14
        replace e14 := hide e14
        clear hO
        replace hB := hide (hB.out.trans (hE.mono hB.out.size))
        replace hL := hide (hL.out.ext hE)
        replace r7 := hide (r7.out.ext hE)
        replace r8 := hide (r8.out.ext hE)
        replace r9 := hide (r9.out.ext hE)
        replace X7 := hide (X7.out.ext hE)
        replace X8 := hide (X8.out.ext hE)
        replace X9 := hide (X9.out.ext hE)
        clear hE k7 s7 k8 s8 k9 s9
        have k8 := X8.out.cell
        have s8 := X8.out.lt
        have k9 := X9.out.cell
        have s9 := X9.out.lt
        go_wp2_with fail
        refine (move_any A8 A9 n8 c8 n9 c9 b c _ r8.out e8.out hl8 hfb r9.out e9.out hl9 hfc hL.out).mono ?_
        rintro e w10 ⟨v, rfl, hO, hE⟩
        rw [← hlc1.out] at hO
        rw [← hm3.out]
        obtain ⟨A15, c15, rfl, r15, hc15, -⟩ := hO.rd
        obtain ⟨n15, e15⟩ : ∃ m, m = (List.length lc) := ⟨_, rfl⟩
        rw [← e15] at hc15 ⊢
        replace r15 := hide r15
        replace e15 := hide e15
        clear hO
        replace r14 := hide (r14.out.ext hE)
        replace hB := hide (hB.out.trans (hE.mono hB.out.size))
        replace hL := hide (hL.out.ext hE)
        replace r7 := hide (r7.out.ext hE)
        replace r8 := hide (r8.out.ext hE)
        replace r9 := hide (r9.out.ext hE)
        replace X7 := hide (X7.out.ext hE)
        replace X8 := hide (X8.out.ext hE)
        replace X9 := hide (X9.out.ext hE)
        clear hE k8 s8 k9 s9
        have k7 := X7.out.cell
        have s7 := X7.out.lt
        have k9 := X9.out.cell
        have s9 := X9.out.lt
        go_wp2_with fail
        refine (move_any A7 A9 n7 c7 n9 c9 a c _ r7.out e7.out hl7 hfa r9.out e9.out hl9 hfc hL.out).mono ?_
        rintro e w11 ⟨v, rfl, hO, hE⟩
        rw [← hld1.out] at hO
        rw [← hm4.out]
        obtain ⟨A17, c17, rfl, r17, hc17, -⟩ := hO.rd
        obtain ⟨n17, e17⟩ : ∃ m, m = (List.length ld) := ⟨_, rfl⟩
        rw [← e17] at hc17 ⊢
        replace r17 := hide r17
        replace e17 := hide e17
        clear hO
        replace r14 := hide (r14.out.ext hE)
        replace r15 := hide (r15.out.ext hE)
        replace hB := hide (hB.out.trans (hE.mono hB.out.size))
        clear hE k7 s7 k9 s9 X7 X8 X9 r7 r8 r9 hfa hfb hfc
        by_cases hz2 : m2 = 0
        · by_cases hz3 : m3 = 0
          · subst hz2
            subst hz3
            have hz4 : m4 = 0 := by rw [hm4.out]; exact moveE_on hm2.out.symm hm3.out.symm
            subst hz4
            have g17 : n17 = n14 := by rw [e17.out, e14.out, hld1.out, hlb1.out, moveL_len hm4.out.symm, moveL_len hm2.out.symm]
            subst g17
            have g18 : n17 ≤ 1000000 := by
              have h0 : n17 = n7 := by rw [e14.out, hlb1.out, moveL_len hm2.out.symm, e7.out]
              omega
            go_wp2
            have T : Ext w11 w11 := Below.refl _ _
            go_loopw [99] (fun i wr => ∃ k : Nat, k ≤ n17 ∧ i = .int .i64 k ∧ Ext w11 wr) (fun i _ => n17 - (intOf i).toNat)
            case atStart => exact ⟨0, Nat.zero_le _, rfl, T⟩
            case round =>
              clear T hlt hlt' 
              obtain ⟨k, hk, rfl, T⟩ := hrel
              by_cases hlt : k < n17
              · have hlt' : (k : Int) < (n17 : Int) := by omega
                obtain ⟨z, hzz⟩ := get_some (xs := lb) (i := k) (by rw [← e14.out]; exact hlt)
                obtain ⟨m, u, rfl, hzm, hzu⟩ := moveL_on hm2.out.symm hm3.out.symm (by rw [← hlb1.out]; exact hzz)
                rw [← hlc1.out] at hzm
                rw [← hld1.out] at hzu
                have hmn : m < n15 := by rw [e15.out]; exact (List.getElem?_eq_some_iff.1 hzm).1
                have hmn' : (m : Int) < (n15 : Int) := by omega
                obtain ⟨b14, o14, rfl, ra14⟩ := (r14.out.ext T).at_ (i := k) (by rw [← e14.out]; exact hlt)
                obtain ⟨b15, o15, rfl, ra15⟩ := (r15.out.ext T).at_ (i := m) (by rw [← e15.out]; exact hmn)
                obtain ⟨b17, o17, rfl, ra17⟩ := (r17.out.ext T).at_ (i := k) (by rw [← e17.out]; exact hlt)
                have q14 := ra14.int hzz
                have q15 := ra15.int hzm
                have q17 := ra17.int hzu
                have hb14 := ra14.1
                have hb15 := ra15.1
                have hb17 := ra17.1
                replace ra14 := hide ra14
                replace ra15 := hide ra15
                replace ra17 := hide ra17
                replace hzz := hide hzz
                replace hzm := hide hzm
                replace hzu := hide hzu
                go_upto_region 23 with fail
                refine wp_region_reads [(0, true), (1, true), (2, true), (3, true), (4, true), (5, true), (6, true), (7, true), (8, true)] (by kernel_rfl) (by kernel_rfl) (by kernel_rfl) (by kernel_rfl) (fun _ _ d _ _ h => by cases d <;> exact h) ?_
                iterate 9
                  apply mix_q rfl rfl
                  · intro W hW
                    subst hW
                    go_simp
                    try exact rfl
                  simp only [Act.put, List.setIfInBounds_toArray, List.set_cons_zero, List.set_cons_succ]
                refine mix_nil ?_
                go_wp2
                refine ⟨?_, ?_⟩
                · first
                    | exact ⟨k + 1, by omega, by go_num, T.drew⟩
                    | ((repeat apply Exists.intro); exact ⟨⟨k + 1, by omega, by go_num, T.drew⟩, rfl⟩)
                · first | (simp [intOf, lenV]; omega) | (simp [intOf]; omega) | (simp [intOf]; done)
              · have hlt' : ¬ (k : Int) < (n17 : Int) := by omega
                go_wp2
                go_ret
                exact ⟨rfl, hB.out.trans (T.mono hB.out.size)⟩
          · subst hz2
            have hz3' : (m3 == 0) = false := by rw [beq_eq_false_iff_ne]; exact hz3
            go_wp2
            go_ret
            exact ⟨rfl, hB.out⟩
        · have hz2' : (m2 == 0) = false := by rw [beq_eq_false_iff_ne]; exact hz2
          have hn14 : n14 = 0 := by rw [e14.out, hlb1.out, moveL_no (by rw [← hm2.out]; exact hz2)]; rfl
          subst hn14
          go_wp2
          go_ret
          exact ⟨rfl, hB.out⟩
  · have hz' : (m1 == 0) = false := by rw [beq_eq_false_iff_ne]; exact hz
    have hfin : Hid (finE a = m1) := hide (by rw [hm1.out, moveE_self])
    have hn10 : n10 = 0 := by rw [e10.out, hla1.out, moveL_no (by rw [← hm1.out]; exact hz)]; rfl
    subst hn10
    go_wp2_with fail
    refine (fine_any A7 n7 c7 a _ r7.out e7.out hl7 hfa hL.out).mono ?_
    rintro e w9 ⟨rfl, hE⟩
    rw [hfin.out]
    replace hB := hide (hB.out.trans (hE.mono hB.out.size))
    clear hE k7 s7
    go_wp2
    go_ret
    exact ⟨rfl, hB.out⟩
end Go.Proofs.YtpfmbehhppbcnaaDoor
