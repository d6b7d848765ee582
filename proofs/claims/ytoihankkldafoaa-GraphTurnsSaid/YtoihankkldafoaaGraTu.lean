/- GraphTurns: the walk. -/
import Derived.Test.YtoihankkldafoaaGraU3
import Derived.Test.YtoihankkldafoaaFlt
namespace Go.Proofs.Ytoihankkldafoaa
open Go.RowKit

theorem grown_below {n a : Nat} {A B : World} (h : A.grownBy B (some a)) (hn : n ≤ A.heap.size) (ha : n ≤ a) : Below n A B :=
  ⟨h.os, h.tape, h.output, h.size, fun k hk => h.block k (by omega) (fun e => by injection e with e; omega)⟩
set_option maxRecDepth 100000 in
set_option maxHeartbeats 8000000 in
theorem graphTurns_any (n kind : Int) (A : Option Addr) (m c : Nat) (xs : List (Int × Int × Int)) (w : World) (hm : m = xs.length) (hmc : m ≤ c) (h : Rd edgeE w.heap.size w A xs) :
    Calls Try.prog 5 #[.agg #[.int .i64 n, .slice A m c], .int .i64 kind] w fun e w' => e = .returned (.bool true) ∧ Ext w w' := by
  replace h := hide h
  replace hm := hide hm
  go_enter Try.func5, Try.ntmps5
  go_upto_region 1 with fail
  obtain ⟨w0, hw0⟩ : ∃ w0, w0 = (w.alloc (.cells #[.int .i64 n, .slice A m c] 24)).alloc (.cells #[.int .i64 kind] 3) := ⟨_, rfl⟩
  rw [← hw0]
  have T : Ext w w0 := by rw [hw0]; exact ((Below.refl _ _).alloc (Nat.le_refl _) _).alloc (by simp) _
  have X2 : Hid (BoxG w0 w.heap.size n A m c) := hide (by rw [hw0]; exact (BoxN.new w _ _).alloc _)
  have X3 : Hid (Box w0 (w.heap.size + 1) 3 (.int .i64 kind)) := hide (by
    rw [hw0]
    have := Box.new (w.alloc (.cells #[.int .i64 n, .slice A m c] 24)) 3 (.int .i64 kind)
    rw [World.size_alloc] at this
    exact this)
  clear hw0
  obtain ⟨p2, hp⟩ : ∃ q, q = w.heap.size := ⟨_, rfl⟩
  rw [← hp] at X2 X3 ⊢
  clear hp
  obtain ⟨p3, hp⟩ : ∃ q, q = p2 + 1 := ⟨_, rfl⟩
  rw [← hp] at X3 ⊢
  clear hp
  go_wp2_with fail
  refine (wakes_any _).mono ?_
  rintro e w1 ⟨rfl, hE⟩
  replace T := T.trans (hE.mono T.size)
  replace X2 := hide (X2.out.ext hE)
  replace X3 := hide (X3.out.ext hE)
  clear hE
  have k20 := X2.out.cell 0 (v := .int .i64 n) rfl
  have k21 := X2.out.cell 1 rfl
  have s2 := X2.out.lt
  have hla : (xs.take 80).length ≤ 80 := by rw [List.length_take]; omega
  obtain ⟨a, ha⟩ : ∃ a, a = xs.take 80 := ⟨_, rfl⟩
  rw [← ha] at hla
  replace ha := hide ha
  go_wp2_with fail
  refine (fair_any n A m c xs _ (h.out.ext T) hm.out hmc).mono ?_
  rintro e w2 ⟨v, rfl, hO, hE⟩
  rw [← ha.out] at hO
  replace T := T.trans (hE.mono T.size)
  replace X2 := hide (X2.out.ext hE)
  replace X3 := hide (X3.out.ext hE)
  clear hE
  clear k20 k21 s2
  obtain ⟨A5, c5, rfl, r5, hcc5, -⟩ := hO.rd
  obtain ⟨n5, e5⟩ : ∃ q, q = List.length a := ⟨_, rfl⟩
  rw [← e5] at hcc5 ⊢
  replace r5 := hide r5
  replace e5 := hide e5
  clear hO
  have hl5 : n5 ≤ 80 := by have := e5.out; omega
  have hl5b : n5 ≤ 1000000 := by omega
  go_upto_region 4 with fail
  obtain ⟨w4, hw⟩ : ∃ q, q = World.alloc w2 (.cells #[.int .i64 n, .slice A5 n5 c5] 24) := ⟨_, rfl⟩
  rw [← hw]
  have hE : Ext w2 w4 := by rw [hw]; exact (Below.refl _ _).alloc (Nat.le_refl _) _
  have X5 : Hid (BoxG w4 (World.heap w2).size n A5 n5 c5) := hide (by rw [hw]; exact BoxN.new _ _ _)
  clear hw
  obtain ⟨p5, hp⟩ : ∃ q, q = (World.heap w2).size := ⟨_, rfl⟩
  rw [← hp] at X5 ⊢
  clear hp
  replace r5 := hide (r5.out.ext hE)
  replace X2 := hide (X2.out.ext hE)
  replace X3 := hide (X3.out.ext hE)
  have hB := hide (T.trans (hE.mono T.size))
  clear hE T
  have T : Ext w4 w4 := Below.refl _ _
  have k50 := (X5.out.ext T).cell 0 (v := .int .i64 n) rfl
  have k51 := (X5.out.ext T).cell 1 rfl
  have s5 := (X5.out.ext T).lt
  obtain ⟨y1, hy1⟩ : ∃ q, q = gN n a := ⟨_, rfl⟩
  obtain ⟨y2, hy2⟩ : ∃ q, q = chkG n a := ⟨_, rfl⟩
  obtain ⟨y3, hy3⟩ : ∃ q, q = gL n a (ofE (a.map turn)) := ⟨_, rfl⟩
  obtain ⟨y4, hy4⟩ : ∃ q, q = gL n a (a.filter (leK kind)) := ⟨_, rfl⟩
  replace hy1 := hide hy1
  replace hy2 := hide hy2
  replace hy3 := hide hy3
  replace hy4 := hide hy4
  go_wp2_with fail
  refine (reverse_any n A5 n5 c5 a _ (r5.out.ext T) e5.out hl5b).mono ?_
  rintro e w5 ⟨v, rfl, hO, hE⟩
  rw [← hy3.out] at hO
  rw [← hy1.out, ← hy2.out]
  replace T := T.trans (hE.mono T.size)
  clear hE
  clear k50 k51 s5
  obtain ⟨A6, c6, rfl, r6, hcc6, -⟩ := hO.rd
  obtain ⟨n6, e6⟩ : ∃ q, q = List.length y3 := ⟨_, rfl⟩
  rw [← e6] at hcc6 ⊢
  replace r6 := hide r6
  replace e6 := hide e6
  clear hO
  go_upto_region 5 with fail
  obtain ⟨w6, hw⟩ : ∃ q, q = World.alloc w5 (.cells #[.int .i64 y1, .slice A6 n6 c6] 24) := ⟨_, rfl⟩
  rw [← hw]
  have hE : Ext w5 w6 := by rw [hw]; exact (Below.refl _ _).alloc (Nat.le_refl _) _
  have X6 : Hid (BoxG w6 (World.heap w5).size y1 A6 n6 c6) := hide (by rw [hw]; exact BoxN.new _ _ _)
  clear hw
  obtain ⟨p6, hp⟩ : ∃ q, q = (World.heap w5).size := ⟨_, rfl⟩
  rw [← hp] at X6 ⊢
  clear hp
  replace r6 := hide (r6.out.ext hE)
  replace T := T.trans (hE.mono T.size)
  clear hE
  replace X2 := hide (X2.out.ext T)
  replace X3 := hide (X3.out.ext T)
  replace X5 := hide (X5.out.ext T)
  replace r5 := hide (r5.out.ext T)
  replace hB := hide (hB.out.trans (T.mono hB.out.size))
  clear T
  go_upto_region 6 with fail
  obtain ⟨w7, hw⟩ : ∃ q, q = w6.alloc (.cells #[.slice none 0 0] 22) := ⟨_, rfl⟩
  rw [← hw]
  have T : Ext w6 w7 := by rw [hw]; exact (Below.refl _ _).alloc (Nat.le_refl _) _
  have X8 : Hid (Box w7 w6.heap.size 22 (.slice none 0 0)) := hide (by rw [hw]; exact Box.new _ _ _)
  clear hw
  have R5 := hide (r5.out.below T)
  have l2 := X2.out.lt
  have l5 := X5.out.lt
  have l6 := X6.out.lt
  have l3 := X3.out.lt
  have hBs := hB.out.size
  have hTs := T.size
  obtain ⟨aB, hp⟩ : ∃ q, q = w6.heap.size := ⟨_, rfl⟩
  have d2 : p2 ≠ aB := by omega
  have d5 : p5 ≠ aB := by omega
  have d6 : p6 ≠ aB := by omega
  have d3 : p3 ≠ aB := by omega
  have hwa : w.heap.size ≤ aB := by omega
  have ha7 : aB ≤ w7.heap.size := by omega
  have ha6 : w6.heap.size ≤ aB := by omega
  rw [← hp] at X8 R5 ⊢
  clear hp l2 l3 l5 l6 hBs hTs
  replace r5 := hide (r5.out.ext T)
  have R6 := hide (r6.out.below T)
  replace X2 := hide (X2.out.ext T)
  replace X3 := hide (X3.out.ext T)
  replace X5 := hide (X5.out.ext T)
  replace X6 := hide (X6.out.ext T)
  replace hB := hide (hB.out.trans (T.mono hB.out.size))
  clear T
  have k50 := X5.out.cell 0 (v := .int .i64 n) rfl
  have k51 := X5.out.cell 1 rfl
  have s5 := X5.out.lt
  go_wp2_with fail
  refine (filterT_any n kind A5 n5 c5 aB p3 a _ R5.out e5.out hl5b X8.out X3.out).mono ?_
  rintro e w8 ⟨v, u, rfl, hO, hX8, hOu, hG⟩
  rw [← hy4.out] at hO
  rw [← hy1.out, ← hy2.out]
  clear k50 k51 s5 X8
  replace X2 := hide (X2.out.grown hG (fun e => d2 (by injection e)))
  replace X3 := hide (X3.out.grown hG (fun e => d3 (by injection e)))
  replace X5 := hide (X5.out.grown hG (fun e => d5 (by injection e)))
  replace X6 := hide (X6.out.grown hG (fun e => d6 (by injection e)))
  have T := grown_below hG ha7 (Nat.le_refl aB)
  have hs78 := hG.size
  replace r5 := hide ((R5.out.below T).more (Nat.le_trans ha7 hs78))
  replace r6 := hide ((R6.out.below (T.mono ha6)).more (show w6.heap.size ≤ w8.heap.size by omega))
  replace hB := hide (hB.out.trans (T.mono hwa))
  clear T hG R5 R6 d2 d3 d5 d6 ha7 ha6 hs78
  have X8 := hide hX8
  clear hX8
  replace hOu := hide hOu
  obtain ⟨A9, c9, rfl, r9, hcc9, -⟩ := hO.rd
  obtain ⟨n9, e9⟩ : ∃ q, q = List.length y4 := ⟨_, rfl⟩
  rw [← e9] at hcc9 ⊢
  replace r9 := hide r9
  replace e9 := hide e9
  clear hO
  go_upto_region 7 with fail
  obtain ⟨w9, hw⟩ : ∃ q, q = World.alloc w8 (.cells #[.int .i64 y1, .slice A9 n9 c9] 24) := ⟨_, rfl⟩
  rw [← hw]
  have hE : Ext w8 w9 := by rw [hw]; exact (Below.refl _ _).alloc (Nat.le_refl _) _
  have X9 : Hid (BoxG w9 (World.heap w8).size y1 A9 n9 c9) := hide (by rw [hw]; exact BoxN.new _ _ _)
  clear hw
  obtain ⟨p9, hp⟩ : ∃ q, q = (World.heap w8).size := ⟨_, rfl⟩
  rw [← hp] at X9 ⊢
  clear hp
  replace r5 := hide (r5.out.ext hE)
  replace r6 := hide (r6.out.ext hE)
  replace r9 := hide (r9.out.ext hE)
  replace X2 := hide (X2.out.ext hE)
  replace X3 := hide (X3.out.ext hE)
  replace X5 := hide (X5.out.ext hE)
  replace X6 := hide (X6.out.ext hE)
  replace X8 := hide (X8.out.ext hE)
  replace hB := hide (hB.out.trans (hE.mono hB.out.size))
  have hE89 := hide hE
  clear hE
  replace h := hide (h.out.ext hB.out)
  have T : Ext w9 w9 := Below.refl _ _
  have k50 := (X5.out.ext T).cell 0 (v := .int .i64 n) rfl
  have k51 := (X5.out.ext T).cell 1 rfl
  have s5 := (X5.out.ext T).lt
  go_wp2_with fail
  refine (refRight_any n A5 n5 c5 a _ (r5.out.ext T) e5.out hl5b).mono ?_
  rintro e w10 ⟨rfl, hE⟩
  replace T := T.trans (hE.mono T.size)
  clear hE
  clear k50 k51 s5
  cases hr : rightG n a with
  | false =>
    obtain ⟨v1, v2, v3⟩ := g_no (l := ofE (a.map turn)) hr
    obtain ⟨-, -, v4⟩ := g_no (l := a.filter (leK kind)) hr
    obtain rfl : y1 = 0 := hy1.out.trans v1
    obtain rfl : y2 = 150 := hy2.out.trans v2
    obtain rfl : y3 = [] := hy3.out.trans v3
    obtain rfl : y4 = [] := hy4.out.trans v4
    obtain rfl : n6 = 0 := e6.out
    obtain rfl : n9 = 0 := e9.out
    replace hr := hide hr
    clear v1 v2 v3 v4
    have k60 := (X6.out.ext T).cell 0 (v := .int .i64 0) rfl
    have k61 := (X6.out.ext T).cell 1 rfl
    have s6 := (X6.out.ext T).lt
    have k90 := (X9.out.ext T).cell 0 (v := .int .i64 0) rfl
    have k91 := (X9.out.ext T).cell 1 rfl
    have s9 := (X9.out.ext T).lt
    go_wp2_with fail
    refine (refSame_any 0 0 A6 none 0 c6 0 0 [] [] _ (r6.out.ext T) rfl Rd.nil_ rfl (by decide)).mono ?_
    rintro e w11 ⟨rfl, hE⟩
    rw [sameG_self]
    replace T := T.trans (hE.mono T.size)
    clear hE
    clear k60 k61 s6 k90 k91 s9
    have k60 := (X6.out.ext T).cell 0 (v := .int .i64 0) rfl
    have k61 := (X6.out.ext T).cell 1 rfl
    have s6 := (X6.out.ext T).lt
    have k90 := (X9.out.ext T).cell 0 (v := .int .i64 0) rfl
    have k91 := (X9.out.ext T).cell 1 rfl
    have s9 := (X9.out.ext T).lt
    go_wp2_with fail
    refine (refSame_any 0 0 A9 none 0 c9 0 0 [] [] _ (r9.out.ext T) rfl Rd.nil_ rfl (by decide)).mono ?_
    rintro e w12 ⟨rfl, hE⟩
    rw [sameG_self]
    replace T := T.trans (hE.mono T.size)
    clear hE
    clear k60 k61 s6 k90 k91 s9
    go_wp2
    go_ret
    exact ⟨rfl, hB.out.trans (T.mono hB.out.size)⟩
  | true =>
    obtain ⟨v1, v2, v3⟩ := g_yes (l := ofE (a.map turn)) hr
    obtain ⟨-, -, v4⟩ := g_yes (l := a.filter (leK kind)) hr
    obtain rfl : n = y1 := (hy1.out.trans v1).symm
    obtain rfl : y2 = 0 := hy2.out.trans v2
    have o3 := hide (hy3.out.trans v3)
    have o4 := hide (hy4.out.trans v4)
    have hl3 : y3.length ≤ 80 := by
      rw [o3.out]
      have := ofE_len (a.map turn)
      rw [List.length_map] at this
      omega
    have hl4 : y4.length ≤ 80 := by rw [o4.out]; exact Nat.le_trans (List.length_filter_le _ _) hla
    have hOu2 := (hOu.out hr).ext hE89.out
    obtain ⟨A8, c8, rfl, r8, -, -⟩ := hOu2.rd
    rw [← e5.out] at X8
    replace r8 := hide r8
    replace hr := hide hr
    clear v1 v2 v3 v4 hOu2 hOu hE89
    have hB10 := hide (hB.out.trans (T.mono hB.out.size))
    replace h := hide (h.out.ext T)
    replace r5 := hide (r5.out.ext T)
    replace r6 := hide (r6.out.ext T)
    replace r8 := hide (r8.out.ext T)
    replace r9 := hide (r9.out.ext T)
    replace X2 := hide (X2.out.ext T)
    replace X3 := hide (X3.out.ext T)
    replace X5 := hide (X5.out.ext T)
    replace X6 := hide (X6.out.ext T)
    replace X8 := hide (X8.out.ext T)
    replace X9 := hide (X9.out.ext T)
    clear T
    have T : Ext w10 w10 := Below.refl _ _
    have k50 := (X5.out.ext T).cell 0 (v := .int .i64 n) rfl
    have k51 := (X5.out.ext T).cell 1 rfl
    have s5 := (X5.out.ext T).lt
    go_upto_region 10 with fail
    obtain ⟨w11, hw⟩ : ∃ q, q = w10.alloc (.cells #[.int .i64 n, .slice none 0 0] 24) := ⟨_, rfl⟩
    rw [← hw]
    replace T : Ext w10 w11 := by rw [hw]; exact (Below.refl _ _).alloc (Nat.le_refl _) _
    have X11 : BoxG w11 w10.heap.size n none 0 0 := by rw [hw]; exact BoxN.new _ _ _
    clear hw
    obtain ⟨p11, hp⟩ : ∃ q, q = w10.heap.size := ⟨_, rfl⟩
    have hle11 : w10.heap.size ≤ p11 := by omega
    rw [← hp] at X11 ⊢
    clear hp
    clear k50 k51 s5
    have k50 := (X5.out.ext T).cell 0 (v := .int .i64 n) rfl
    have k51 := (X5.out.ext T).cell 1 rfl
    have s5 := (X5.out.ext T).lt
    have I11 : Hid (∃ v, BoxN w11 p11 24 #[.int .i64 n, v] ∧ Own edgeE 35 w10.heap.size w11 v ((a.take 0).filter (leK kind))) := hide ⟨_, X11, Own.nil_⟩
    clear X11
    go_wp2
    go_loopw [55] (fun i wr => ∃ k : Nat, k ≤ n5 ∧ i = .int .i64 k ∧ Hid (∃ v, BoxN wr p11 24 #[.int .i64 n, v] ∧ Own edgeE 35 w10.heap.size wr v ((a.take k).filter (leK kind))) ∧ Ext w10 wr) (fun i _ => n5 - (intOf i).toNat)
    case atStart => exact ⟨0, Nat.zero_le _, rfl, I11, T⟩
    case round =>
      clear T I11
      clear k50 k51 s5
      obtain ⟨k, hk, rfl, I11, T⟩ := hrel
      obtain ⟨v, X11, O11⟩ := I11.out
      clear I11
      by_cases hlt : k < n5
      · have hlt' : (k : Int) < (n5 : Int) := by omega
        obtain ⟨bk, off, rfl, ra⟩ := (r5.out.ext T).at_ (i := k) (by rw [← e5.out]; exact hlt)
        obtain ⟨⟨p1, p2_, p3_⟩, hx⟩ := get_some (xs := a) (i := k) (by rw [← e5.out]; exact hlt)
        obtain ⟨hx1, hx2, hx3⟩ := ra.edge hx
        have hb1 := ra.1
        replace ra := hide ra
        have hts := hide (take_snoc hx)
        clear hx
        have hlen : Hid (((a.take k).filter (leK kind)).length ≤ 100000) := hide (Nat.le_trans (List.length_filter_le _ _) (by rw [List.length_take]; omega))
        obtain ⟨A11, c11, hv5, -, -, -⟩ := O11.rd
        subst hv5
        obtain ⟨z, hz⟩ : ∃ z, z = (a.take k).filter (leK kind) := ⟨_, rfl⟩
        rw [← hz] at O11 X11 hlen
        replace hz := hide hz
        obtain ⟨l11, hl11⟩ : ∃ l, l = z.length := ⟨_, rfl⟩
        rw [← hl11] at O11 X11 hlen
        replace hl11 := hide hl11
        go_upto_region 13 with fail
        obtain ⟨w12, hw1⟩ : ∃ x, x = wr.alloc (.cells #[.int .i64 p1, .int .i64 p2_, .int .i64 p3_] 35) := ⟨_, rfl⟩
        rw [← hw1]
        have hE1 : Ext wr w12 := by rw [hw1]; exact (Below.refl _ _).alloc (Nat.le_refl _) _
        have X13 : BoxN w12 wr.heap.size 35 #[.int .i64 p1, .int .i64 p2_, .int .i64 p3_] := by rw [hw1]; exact BoxN.new _ _ _
        clear hw1
        obtain ⟨p13, hpe⟩ : ∃ b, b = wr.heap.size := ⟨_, rfl⟩
        rw [← hpe] at X13 ⊢
        clear hpe hx1 hx2 hx3 hb1
        replace T := T.trans (hE1.mono T.size)
        replace X11 := X11.ext hE1
        replace O11 := O11.ext hE1
        clear hE1
        have ck := (X3.out.ext T).cell
        have sk := (X3.out.ext T).lt
        have k130 := X13.cell 0 (v := .int .i64 p1) rfl
        have k131 := X13.cell 1 (v := .int .i64 p2_) rfl
        have k132 := X13.cell 2 (v := .int .i64 p3_) rfl
        have s13 := X13.lt
        have k110 := X11.cell 0 (v := .int .i64 n) rfl
        have k111 := X11.cell 1 (v := .slice A11 l11 c11) rfl
        have s11 := X11.lt
        have f111 := X11.free 1
        by_cases hp : p3_ ≤ kind
        · have hst : Hid ((a.take (k + 1)).filter (leK kind) = z ++ [(p1, p2_, p3_)]) := hide (by rw [hts.out, List.filter_append, hz.out]; simp [leK, hp])
          have hon := own_new (base := 0) (e := 35) edgeE w12 (p1, p2_, p3_) (World.heap w12).size rfl (Nat.zero_le _)
          obtain ⟨A4, c4, hv1, hr4, -, -⟩ := hon.rd
          injection hv1 with hv2 hv3 hv4
          subst hv2
          clear hon hv3 hv4
          replace hr4 := hide hr4
          have Oa := hide (O11.alloc (.cells (edgeE.cs (p1, p2_, p3_)).toArray 35))
          have hsz := T.size
          have hEa := hide (T.alloc hsz (.cells (edgeE.cs (p1, p2_, p3_)).toArray 35))
          have X11a := hide (X11.alloc (.cells (edgeE.cs (p1, p2_, p3_)).toArray 35))
          replace O11 := hide O11
          replace X11 := hide X11
          clear f111
          go_wp2_with (at_builtin; refine wpList_app tyEdge rfl (.tmp 64) (.tmp 66) rfl rfl Oa.out rfl hr4.out rfl (by have h1 := hlen.out; have h2 := hl11.out; simp; omega) (by simp; omega) ?_)
          intro v9 w13 hown hg hne hnil
          have T9 : Below w10.heap.size w10 w13 := Own.below Oa.out hEa.out hg (by simp; omega)
          have Y11 := X11a.out.app Oa.out hg (by decide)
          obtain ⟨A12, c12, rfl, -, -, -⟩ := hown.rd
          obtain ⟨l12, hl12⟩ : ∃ l, l = (z ++ [(p1, p2_, p3_)]).length := ⟨_, rfl⟩
          rw [← hl12] at hown ⊢
          replace hl12 := hide hl12
          have J11 : Hid (∃ v, BoxN (w13.setCell ⟨p11, 1, none⟩ (.slice A12 l12 c12)) p11 24 #[.int .i64 n, v] ∧ Own edgeE 35 w10.heap.size (w13.setCell ⟨p11, 1, none⟩ (.slice A12 l12 c12)) v ((a.take (k + 1)).filter (leK kind))) := hide (by rw [hst.out]; exact ⟨_, Y11.set 1 _, hown.setN Y11 (by decide) 1 _⟩)
          clear hg hne hnil Oa hEa hr4 hown X11a ck sk k130 k131 k132 s13 k110 k111 s11
          have k110 := Y11.cell 0 (v := .int .i64 n) rfl
          have k111 := Y11.cell 1 (v := .slice A11 l11 c11) rfl
          have s11 := Y11.lt
          have f111 := Y11.free 1
          go_wp2
          refine ⟨?_, ?_⟩
          · first
              | exact ⟨k + 1, by omega, by go_num, J11, T9.setCell (p := ⟨p11, 1, none⟩) hle11 _⟩
              | ((repeat apply Exists.intro); exact ⟨⟨k + 1, by omega, by go_num, J11, T9.setCell (p := ⟨p11, 1, none⟩) hle11 _⟩, rfl⟩)
          · first | (simp [intOf, lenV]; omega) | (simp [intOf]; omega) | (simp [intOf]; done)
        · have hst : Hid ((a.take (k + 1)).filter (leK kind) = z) := hide (by rw [hts.out, List.filter_append, hz.out]; simp [leK, hp])
          have J11 : Hid (∃ v, BoxN w12 p11 24 #[.int .i64 n, v] ∧ Own edgeE 35 w10.heap.size w12 v ((a.take (k + 1)).filter (leK kind))) := hide (by rw [hst.out]; exact ⟨_, X11, O11⟩)
          clear f111
          go_wp2
          refine ⟨?_, ?_⟩
          · first
              | exact ⟨k + 1, by omega, by go_num, J11, T⟩
              | ((repeat apply Exists.intro); exact ⟨⟨k + 1, by omega, by go_num, J11, T⟩, rfl⟩)
          · first | (simp [intOf, lenV]; omega) | (simp [intOf]; omega) | (simp [intOf]; done)
      · have hlt' : ¬ (k : Int) < (n5 : Int) := by omega
        rw [List.take_of_length_le (by rw [← e5.out]; omega), ← o4.out] at O11
        obtain ⟨A11, c11, rfl, r11, -, -⟩ := O11.rd
        rw [← e9.out] at X11
        replace r11 := hide r11
        clear O11
        have k50 := (X5.out.ext T).cell 0 (v := .int .i64 n) rfl
        have k51 := (X5.out.ext T).cell 1 rfl
        have s5 := (X5.out.ext T).lt
        have k20 := (X2.out.ext T).cell 0 (v := .int .i64 n) rfl
        have k21 := (X2.out.ext T).cell 1 rfl
        have s2 := (X2.out.ext T).lt
        have k60 := (X6.out.ext T).cell 0 (v := .int .i64 n) rfl
        have k61 := (X6.out.ext T).cell 1 rfl
        have s6 := (X6.out.ext T).lt
        have k90 := (X9.out.ext T).cell 0 (v := .int .i64 n) rfl
        have k91 := (X9.out.ext T).cell 1 rfl
        have s9 := (X9.out.ext T).lt
        have k110 := X11.cell 0 (v := .int .i64 n) rfl
        have k111 := X11.cell 1 rfl
        have s11 := X11.lt
        have ck8 := (X8.out.ext T).cell
        have sk8 := (X8.out.ext T).lt
        have Q := hide (h.out.ext T)
        have Q5 := hide (r5.out.ext T)
        have Q6 := hide (r6.out.ext T)
        have Q8 := hide (r8.out.ext T)
        have Q9 := hide (r9.out.ext T)
        have TA := hide T
        clear T
        go_upto_region 16 with fail
        have T : Ext wr wr.drew := (Below.refl _ _).drew
        refine wp_region_mix (fun W => Below wr.heap.size wr W) [(0, true), (1, true), (2, true), (3, true), (4, true), (5, true), (6, true), (7, true), (8, true), (9, false), (10, false), (11, false), (12, true), (13, true), (14, true), (15, true), (16, false), (17, true), (18, true), (19, true), (20, true), (21, true), (22, false), (23, true), (24, true), (25, true), (26, true), (27, false), (28, false), (29, true), (30, true)] (by kernel_rfl) (by kernel_rfl) (by kernel_rfl) (by kernel_rfl) (fun _ _ d _ _ h => by cases d <;> exact h) ?_ ?_
        · exact T
        obtain ⟨wl, hwh⟩ : ∃ x, x = wr.drew := ⟨_, rfl⟩
        rw [← hwh] at T ⊢
        clear hwh
        iterate 3
          apply mix_q rfl rfl
          · intro W hW
            have hcW := (bcell hW).1
            go_simp
            try exact rfl
          simp only [Act.put, List.setIfInBounds_toArray, List.set_cons_zero, List.set_cons_succ]
        iterate 2
          apply mix_on rfl (wanted_is rfl rfl rfl rfl rfl)
          · intro W hW
            have hcW := (bcell hW).1
            go_simp
            try exact rfl
          simp only [Act.put, List.setIfInBounds_toArray, List.set_cons_zero, List.set_cons_succ]
        iterate 2
          apply mix_q rfl rfl
          · intro W hW
            have hcW := (bcell hW).1
            go_simp
            try exact rfl
          simp only [Act.put, List.setIfInBounds_toArray, List.set_cons_zero, List.set_cons_succ]
        iterate 2
          apply mix_on rfl (wanted_is rfl rfl rfl rfl rfl)
          · intro W hW
            have hcW := (bcell hW).1
            go_simp
            try exact rfl
          simp only [Act.put, List.setIfInBounds_toArray, List.set_cons_zero, List.set_cons_succ]
        refine mix_won rfl (wanted_is rfl rfl rfl rfl rfl) (fun K hK => ?_)
        go_simp
        refine (fair_any n A m c xs _ (Q.out.ext T) hm.out hmc).mono ?_
        rintro e w14 ⟨v, rfl, hO, hE⟩
        refine hK _ _ (T.trans (hE.mono T.size)) ?_
        clear hK K
        try simp only [Act.put, List.setIfInBounds_toArray, List.set_cons_zero, List.set_cons_succ]
        replace T := T.trans (hE.mono T.size)
        rw [← ha.out] at hO
        clear hE
        obtain ⟨A79, c79, rfl, r79, hcc79, -⟩ := hO.rd
        obtain ⟨n79, e79⟩ : ∃ q, q = List.length a := ⟨_, rfl⟩
        rw [← e79] at hcc79 ⊢
        replace r79 := hide r79
        replace e79 := hide e79
        clear hO
        refine mix_won rfl (wanted_is rfl rfl rfl rfl rfl) (fun K hK => ?_)
        go_simp
        refine (refReverse_any n A79 n79 c79 a _ r79.out e79.out (by have := e79.out; omega)).mono ?_
        rintro e w15 ⟨v, rfl, hO, hE⟩
        refine hK _ _ (T.trans (hE.mono T.size)) ?_
        clear hK K
        try simp only [Act.put, List.setIfInBounds_toArray, List.set_cons_zero, List.set_cons_succ]
        replace T := T.trans (hE.mono T.size)
        rw [← o3.out] at hO
        clear hE
        obtain ⟨A80, c80, rfl, r80, hcc80, -⟩ := hO.rd
        obtain ⟨n80, e80⟩ : ∃ q, q = List.length y3 := ⟨_, rfl⟩
        rw [← e80] at hcc80 ⊢
        replace r80 := hide r80
        replace e80 := hide e80
        clear hO
        refine mix_won rfl (wanted_is rfl rfl rfl rfl rfl) (fun K hK => ?_)
        go_simp
        refine (refSame_any n n A6 A80 n6 c6 n80 c80 y3 y3 _ (Q6.out.ext T) e6.out r80.out e80.out (by have := e6.out; omega)).mono ?_
        rintro e w16 ⟨rfl, hE⟩
        refine hK _ _ (T.trans (hE.mono T.size)) ?_
        clear hK K
        try simp only [Act.put, List.setIfInBounds_toArray, List.set_cons_zero, List.set_cons_succ]
        replace T := T.trans (hE.mono T.size)
        rw [sameG_self]
        clear hE
        iterate 2
          apply mix_q rfl rfl
          · intro W hW
            have hcW := (bcell hW).1
            go_simp
            try exact rfl
          simp only [Act.put, List.setIfInBounds_toArray, List.set_cons_zero, List.set_cons_succ]
        iterate 2
          apply mix_on rfl (wanted_is rfl rfl rfl rfl rfl)
          · intro W hW
            have hcW := (bcell hW).1
            go_simp
            try exact rfl
          simp only [Act.put, List.setIfInBounds_toArray, List.set_cons_zero, List.set_cons_succ]
        refine mix_won rfl (wanted_is rfl rfl rfl rfl rfl) (fun K hK => ?_)
        go_simp
        refine (refSame_any n n A9 A11 n9 c9 n9 c11 y4 y4 _ (Q9.out.ext T) e9.out (r11.out.ext T) e9.out (by have := e9.out; omega)).mono ?_
        rintro e w17 ⟨rfl, hE⟩
        refine hK _ _ (T.trans (hE.mono T.size)) ?_
        clear hK K
        try simp only [Act.put, List.setIfInBounds_toArray, List.set_cons_zero, List.set_cons_succ]
        replace T := T.trans (hE.mono T.size)
        rw [sameG_self]
        clear hE
        iterate 2
          apply mix_q rfl rfl
          · intro W hW
            have hcW := (bcell hW).1
            go_simp
            try exact rfl
          simp only [Act.put, List.setIfInBounds_toArray, List.set_cons_zero, List.set_cons_succ]
        iterate 3
          apply mix_on rfl (wanted_is rfl rfl rfl rfl rfl)
          · intro W hW
            have hcW := (bcell hW).1
            go_simp
            try exact rfl
          simp only [Act.put, List.setIfInBounds_toArray, List.set_cons_zero, List.set_cons_succ]
        refine mix_won rfl (wanted_is rfl rfl rfl rfl rfl) (fun K hK => ?_)
        go_simp
        refine (equal_Edge A8 A5 n5 c8 n5 c5 a a _ e5.out (Q8.out.ext T) e5.out (Q5.out.ext T) hl5b).mono ?_
        rintro e w18 ⟨rfl, hE⟩
        refine hK _ _ (T.trans (hE.mono T.size)) ?_
        clear hK K
        try simp only [Act.put, List.setIfInBounds_toArray, List.set_cons_zero, List.set_cons_succ]
        replace T := T.trans (hE.mono T.size)
        try rw [show decide (a = a) = true from decide_eq_true rfl]
        clear hE
        iterate 2
          apply mix_q rfl rfl
          · intro W hW
            have hcW := (bcell hW).1
            go_simp
            try exact rfl
          simp only [Act.put, List.setIfInBounds_toArray, List.set_cons_zero, List.set_cons_succ]
        iterate 2
          apply mix_on rfl (wanted_is rfl rfl rfl rfl rfl)
          · intro W hW
            have hcW := (bcell hW).1
            go_simp
            try exact rfl
          simp only [Act.put, List.setIfInBounds_toArray, List.set_cons_zero, List.set_cons_succ]
        refine mix_won rfl (wanted_is rfl rfl rfl rfl rfl) (fun K hK => ?_)
        go_simp
        refine (fair_any n A m c xs _ (Q.out.ext T) hm.out hmc).mono ?_
        rintro e w19 ⟨v, rfl, hO, hE⟩
        refine hK _ _ (T.trans (hE.mono T.size)) ?_
        clear hK K
        try simp only [Act.put, List.setIfInBounds_toArray, List.set_cons_zero, List.set_cons_succ]
        replace T := T.trans (hE.mono T.size)
        rw [← ha.out] at hO
        clear hE
        obtain ⟨A97, c97, rfl, r97, hcc97, -⟩ := hO.rd
        obtain ⟨n97, e97⟩ : ∃ q, q = List.length a := ⟨_, rfl⟩
        rw [← e97] at hcc97 ⊢
        replace r97 := hide r97
        replace e97 := hide e97
        clear hO
        refine mix_won rfl (wanted_is rfl rfl rfl rfl rfl) (fun K hK => ?_)
        go_simp
        refine (refSame_any n n A5 A97 n5 c5 n97 c97 a a _ (Q5.out.ext T) e5.out r97.out e97.out hl5b).mono ?_
        rintro e w20 ⟨rfl, hE⟩
        refine hK _ _ (T.trans (hE.mono T.size)) ?_
        clear hK K
        try simp only [Act.put, List.setIfInBounds_toArray, List.set_cons_zero, List.set_cons_succ]
        replace T := T.trans (hE.mono T.size)
        rw [sameG_self]
        clear hE
        iterate 2
          apply mix_q rfl rfl
          · intro W hW
            have hcW := (bcell hW).1
            go_simp
            try exact rfl
          simp only [Act.put, List.setIfInBounds_toArray, List.set_cons_zero, List.set_cons_succ]
        refine mix_nil ?_
        go_wp2
        go_ret
        exact ⟨rfl, hB10.out.trans ((TA.out.trans (T.mono TA.out.size)).mono hB10.out.size)⟩
end Go.Proofs.Ytoihankkldafoaa
