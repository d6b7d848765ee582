/- BitsOnes: the walk. -/
import Derived.Test.YtkiklbngfocljaaDoorBitNP
import Derived.Test.YtkiklbngfocljaaDoorBitW
namespace Go.Proofs.YtkiklbngfocljaaDoor
open Go.RowKit

theorem index_b0 (w : World) (A1 A2 : Option Addr) (n1 n2 c1 c2 : Nat) : (Instr.index 42 (.agg #[.slice A1 n1 c1, .slice A2 n2 c2]) (.int .i64 0)).run Tryd.prog w = .ok (.agg #[.slice A1 n1 c1]) w := by kernel_rfl
theorem index_b1 (w : World) (A1 A2 : Option Addr) (n1 n2 c1 c2 : Nat) : (Instr.index 42 (.agg #[.slice A1 n1 c1, .slice A2 n2 c2]) (.int .i64 1)).run Tryd.prog w = .ok (.agg #[.slice A2 n2 c2]) w := by kernel_rfl
set_option maxRecDepth 100000 in
set_option maxHeartbeats 8000000 in
theorem bitsOnes_any (A1 : Option Addr) (n1 c1 : Nat) (xs : List Nat) (AN : Option Addr) (nn cn : Nat) (ps : List Int) (w : World) (hn1 : n1 = xs.length) (hc1 : n1 ≤ c1) (h1 : Rd wE w.heap.size w A1 xs) (hfx : Fit xs)
    (hnn : nn = ps.length) (hN : Rd intE w.heap.size w AN ps) (hL : LaidT w) :
    Calls Tryd.prog 3 #[.agg #[.slice A1 n1 c1], .slice AN nn cn] w fun e w' => e = .returned (.bool true) ∧ Ext w w' := by
  replace h1 := hide h1
  replace hn1 := hide hn1
  replace hL := hide hL
  replace hN := hide hN
  replace hnn := hide hnn
  go_enter Tryd.func3, Tryd.ntmps3
  go_upto_region 1 with fail
  obtain ⟨w0, hw⟩ : ∃ x, x = World.alloc w (.cells #[.slice A1 n1 c1] 24) := ⟨_, rfl⟩
  rw [← hw]
  have x2 : Hid (Box w0 (World.heap w).size 24 (.slice A1 n1 c1)) := hide (by rw [hw]; exact Box.new _ _ _)
  have hE : Ext w w0 := by rw [hw]; exact (Below.refl _ _).alloc (Nat.le_refl _) _
  have hlt : (World.heap w).size < (World.heap w0).size := by rw [hw]; simp
  clear hw
  have hB := hE
  clear hlt
  obtain ⟨b2, hb2⟩ : ∃ b, b = w.heap.size := ⟨_, rfl⟩
  rw [← hb2] at x2 ⊢
  have T2 : Ext w0 w0 := Below.refl _ _
  go_wp2_with fail
  refine (wakes_any _ (hL.out.ext hB)).mono ?_
  rintro e w1 ⟨rfl, hE1⟩
  have hc2 := (x2.out.ext hE1).cell
  have hs2 := (x2.out.ext hE1).lt
  clear hE
  have hE := hE1
  replace hB := hB.trans (hE.mono hB.size)
  replace T2 := T2.trans (hE.mono T2.size)
  clear hE hE1 hb2
  go_wp2_with fail
  refine (own_any A1 n1 c1 xs _ (h1.out.ext hB) hn1.out hc1).mono ?_
  rintro e w2 ⟨v, rfl, hO, hE⟩
  replace hB := hB.trans (hE.mono hB.size)
  replace T2 := T2.trans (hE.mono T2.size)
  have hf : Fit (xs.take 160) := fun x hx => hfx x (List.mem_of_mem_take hx)
  have hl : (xs.take 160).length ≤ 160 := by rw [List.length_take]; omega
  obtain ⟨a, ha⟩ : ∃ a, a = xs.take 160 := ⟨_, rfl⟩
  rw [← ha] at hf hl hO
  replace ha := hide ha
  obtain ⟨A5, c5, rfl, r5, hc5l, -⟩ := hO.rd
  obtain ⟨n5, e5⟩ : ∃ m, m = a.length := ⟨_, rfl⟩
  rw [← e5] at hl hc5l ⊢
  replace e5 := hide e5
  clear hO hE hc2 hs2
  go_wp2_with fail
  obtain ⟨w3, hw⟩ : ∃ x, x = World.alloc w2 (.cells #[.slice A5 n5 c5] 24) := ⟨_, rfl⟩
  rw [← hw]
  have x5 : Hid (Box w3 (World.heap w2).size 24 (.slice A5 n5 c5)) := hide (by rw [hw]; exact Box.new _ _ _)
  have hE : Ext w2 w3 := by rw [hw]; exact (Below.refl _ _).alloc (Nat.le_refl _) _
  have hlt : (World.heap w2).size < (World.heap w3).size := by rw [hw]; simp
  clear hw
  have r5' := hide (r5.ext hE)
  clear r5
  replace hB := hB.trans (hE.mono hB.size)
  replace T2 := T2.trans (hE.mono T2.size)
  obtain ⟨p5, hp⟩ : ∃ x, x = (World.heap w2).size := ⟨_, rfl⟩
  rw [← hp] at x5 hlt ⊢
  clear hp
  have T5 : Ext w3 w3 := Below.refl _ _
  have hc5 := x5.out.cell
  have hs5 := x5.out.lt
  clear hE hlt
  refine (refList_any A5 n5 c5 a _ (r5'.out.ext T5) e5.out (by omega) hf).mono ?_
  rintro e w4 ⟨v, rfl, hO, hE⟩
  replace hB := hB.trans (hE.mono hB.size)
  replace T5 := T5.trans (hE.mono T5.size)
  replace hc5 := (x5.out.ext T5).cell
  replace hs5 := (x5.out.ext T5).lt
  replace T2 := T2.trans (hE.mono T2.size)
  obtain ⟨A6, c6, rfl, r6, -, -⟩ := hO.rd
  rw [show natsI (nums (ofW a)) = numL a from rfl] at r6 ⊢
  obtain ⟨m, e6⟩ : ∃ m, m = (numL a).length := ⟨_, rfl⟩
  have hm : m ≤ 20000 := by
    have h1 := nums_length (ofW a)
    have h2 := ofW_le a
    have h3 := e5.out
    have h4 : m = (nums (ofW a)).length := by rw [e6]; unfold numL natsI; rw [List.length_map]
    omega
  rw [← e6]
  replace e6 := hide e6
  replace r6 := hide r6
  clear hO hE
  replace x5 := hide (x5.out.ext T5)
  replace x2 := hide (x2.out.ext T2)
  replace r5' := hide (r5'.out.ext T5)
  replace h1 := hide (h1.out.ext hB)
  replace hN := hide (hN.out.ext hB)
  replace hL := hide (hL.out.ext hB)
  have hBh := hide hB
  clear T5 T2 hB hfx hc5 hs5
  go_wp2
  go_loopw [31] (fun i wr => ∃ k : Nat, k ≤ nn ∧ k ≤ 8 ∧ i = .int .i64 k ∧ Ext w4 wr) (fun i _ => nn - (intOf i).toNat)
  case atStart => exact ⟨0, Nat.zero_le _, by omega, rfl, Below.refl _ _⟩
  case round =>
    obtain ⟨k, hk, hk8, rfl, T⟩ := hrel
    by_cases hlt : k < nn
    · have hlt' : (k : Int) < (nn : Int) := by omega
      obtain ⟨b, off, rfl, ra⟩ := hN.out.at_ (i := k) (by rw [← hnn.out]; exact hlt)
      obtain ⟨p, hp⟩ := get_some (xs := ps) (i := k) (by rw [← hnn.out]; exact hlt)
      have hpc := (ra.ext T).int hp
      have hbw := Nat.lt_of_lt_of_le ra.1 T.size
      have hc5 := (x5.out.ext T).cell
      have hs5 := (x5.out.ext T).lt
      clear hp
      replace ra := hide ra
      by_cases h8 : k = 8
      · subst h8
        go_wp2
        go_ret
        exact ⟨rfl, hBh.out.trans (T.mono hBh.out.size)⟩
      · have h8' : ((k : Int) == 8) = false := by rw [beq_eq_false_iff_ne]; omega
        have hk7 : k + 1 ≤ 8 := by omega
        replace h8 := hide h8
        have hcc6 := hide trivial
        go_upto_block 2 with fail
        go_cut [9, 10, 12] from 38 to 52 (fun s9 s10 _ wx => s9 = .int .i64 (nextN a p) ∧ s10 = .bool (nextB a p) ∧ wx = wr)
        case first =>
          go_wp2
          go_loopw [9, 10, 40] (fun s9 s10 i wq => ∃ (j : Nat) (y : Int) (z : Bool), j ≤ m ∧ i = .int .i64 j ∧ s9 = .int .i64 y ∧ s10 = .bool z ∧ Hid (y = (nxt ((numL a).take j) p).getD 0 ∧ z = (nxt ((numL a).take j) p).isSome) ∧ wq = wr) (fun _ _ i _ => m - (intOf i).toNat)
          case atStart => exact ⟨0, 0, false, Nat.zero_le _, rfl, rfl, rfl, hide ⟨rfl, rfl⟩, rfl⟩
          case round =>
            obtain ⟨j, y, z, hj, rfl, rfl, rfl, hyz, hwq⟩ := hrel
            subst hwq
            by_cases hjm : j < m
            · have hjm' : (j : Int) < (m : Int) := by omega
              obtain ⟨b6, o6, rfl, ra6⟩ := r6.out.at_ (i := j) (by rw [← e6.out]; exact hjm)
              obtain ⟨q, hq⟩ := get_some (xs := numL a) (i := j) (by rw [← e6.out]; exact hjm)
              have hqc := (ra6.ext T).int hq
              have hb6 := Nat.lt_of_lt_of_le ra6.1 T.size
              have htk := take_snoc hq
              replace ra6 := hide ra6
              replace hq := hide hq
              by_cases hpq : p ≤ q
              · cases hz : z with
                | true =>
                  have h2 : Hid (y = (nxt ((numL a).take (j + 1)) p).getD 0 ∧ true = (nxt ((numL a).take (j + 1)) p).isSome) := hide (by
                    have hs := hyz.out.2
                    rw [hz] at hs
                    rw [htk, nxt_snoc, if_pos hs.symm]
                    exact ⟨hyz.out.1, hs⟩)
                  subst hz
                  replace hyz := hide trivial
                  replace htk := hide htk
                  go_wp2
                  refine ⟨?_, ?_⟩
                  · first
                      | exact ⟨j + 1, y, true, by omega, by go_num, rfl, rfl, h2, trivial⟩
                      | ((repeat apply Exists.intro); exact ⟨⟨j + 1, y, true, by omega, by go_num, rfl, rfl, h2, trivial⟩, rfl⟩)
                  · first | (simp [intOf, lenV]; omega) | (simp [intOf]; omega) | (simp [intOf]; done)
                | false =>
                  have h2 : Hid (q = (nxt ((numL a).take (j + 1)) p).getD 0 ∧ true = (nxt ((numL a).take (j + 1)) p).isSome) := hide (by
                    have hs := hyz.out.2
                    rw [hz] at hs
                    rw [htk, nxt_snoc, if_neg (by rw [← hs]; decide), if_pos hpq]
                    exact ⟨rfl, rfl⟩)
                  subst hz
                  replace hyz := hide trivial
                  replace htk := hide htk
                  go_wp2
                  refine ⟨?_, ?_⟩
                  · first
                      | exact ⟨j + 1, q, true, by omega, by go_num, rfl, rfl, h2, trivial⟩
                      | ((repeat apply Exists.intro); exact ⟨⟨j + 1, q, true, by omega, by go_num, rfl, rfl, h2, trivial⟩, rfl⟩)
                  · first | (simp [intOf, lenV]; omega) | (simp [intOf]; omega) | (simp [intOf]; done)
              · have h2 : Hid (y = (nxt ((numL a).take (j + 1)) p).getD 0 ∧ z = (nxt ((numL a).take (j + 1)) p).isSome) := hide (by
                  rw [htk, nxt_snoc, if_neg hpq]
                  have hs := hyz.out
                  by_cases hi : (nxt ((numL a).take j) p).isSome = true
                  · rw [if_pos hi]; exact hs
                  · rw [if_neg hi]
                    have hn : nxt ((numL a).take j) p = none := by simpa using hi
                    rw [hn] at hs
                    exact hs)
                have hpq' : ¬ p ≤ q := hpq
                replace hyz := hide trivial
                replace htk := hide htk
                go_wp2
                refine ⟨?_, ?_⟩
                · first
                    | exact ⟨j + 1, y, z, by omega, by go_num, rfl, rfl, h2, trivial⟩
                    | ((repeat apply Exists.intro); exact ⟨⟨j + 1, y, z, by omega, by go_num, rfl, rfl, h2, trivial⟩, rfl⟩)
                · first | (simp [intOf, lenV]; omega) | (simp [intOf]; omega) | (simp [intOf]; done)
            · obtain hjn : j = m := by omega
              have h2 := hyz.out
              rw [hjn, e6.out, List.take_length] at h2
              obtain ⟨rfl, rfl⟩ := h2
              obtain ⟨h3, h4⟩ := nxt_num a p
              have h3' := hide h3
              have h4' := hide h4
              rw [h3, h4]
              clear h3 h4 hyz
              subst hjn
              go_wp2
              go_meet
              case rel => exact ⟨rfl, rfl, rfl⟩
        case rest =>
          obtain ⟨rfl, rfl, hwx⟩ := hcut
          subst hwx
          clear hpc hbw hcc6
          go_wp2_with fail
          refine (next_any A5 n5 c5 a p _ (r5'.out.ext T) e5.out (by omega) hf (hL.out.ext T)).mono ?_
          rintro e w5 ⟨rfl, hE⟩
          replace T := T.trans (hE.mono T.size)
          replace hc5 := (x5.out.ext T).cell
          replace hs5 := (x5.out.ext T).lt
          clear hE
          go_wp2_with fail
          refine (with_any A5 n5 c5 a p _ (r5'.out.ext T) e5.out (by omega) hf).mono ?_
          rintro e w6 ⟨v, rfl, hO, hE⟩
          replace hO := hO.base_le T.size
          replace T := T.trans (hE.mono T.size)
          replace hc5 := (x5.out.ext T).cell
          replace hs5 := (x5.out.ext T).lt
          obtain ⟨A15, c15, rfl, r15, -, -⟩ := hO.rd
          obtain ⟨n15, e15⟩ : ∃ m, m = (withS a p).length := ⟨_, rfl⟩
          rw [← e15] at hO ⊢
          have hl15 : n15 ≤ 1000 := by rw [e15]; exact withS_len a p (by rw [← e5.out]; omega)
          replace e15 := hide e15
          clear hE
          go_upto_region 18 with fail
          obtain ⟨w7, hw⟩ : ∃ x, x = World.alloc w6 (.cells #[.slice A15 n15 c15] 24) := ⟨_, rfl⟩
          rw [← hw]
          have x15 : Hid (Box w7 (World.heap w6).size 24 (.slice A15 n15 c15)) := hide (by rw [hw]; exact Box.new _ _ _)
          have hE : Ext w6 w7 := by rw [hw]; exact (Below.refl _ _).alloc (Nat.le_refl _) _
          have hlt : (World.heap w6).size < (World.heap w7).size := by rw [hw]; simp
          clear hw
          replace T := T.trans (hE.mono T.size)
          replace hc5 := (x5.out.ext T).cell
          replace hs5 := (x5.out.ext T).lt
          replace r15 := hide (r15.ext hE)
          have O15 := hide (hO.ext hE)
          clear hO
          obtain ⟨p15, hp⟩ : ∃ x, x = (World.heap w6).size := ⟨_, rfl⟩
          rw [← hp] at x15 hlt ⊢
          clear hp
          have T15 : Ext w7 w7 := Below.refl _ _
          have h47' := T.size
          have hc15 := x15.out.cell
          have hs15 := x15.out.lt
          clear hE hlt
          go_upto_region 19 with fail
          obtain ⟨w8, hw⟩ : ∃ x, x = World.alloc w7 (.cells #[.slice none 0 0] 24) := ⟨_, rfl⟩
          rw [← hw]
          have x17 : Hid (Box w8 (World.heap w7).size 24 (.slice none 0 0)) := hide (by rw [hw]; exact Box.new _ _ _)
          have hE : Ext w7 w8 := by rw [hw]; exact (Below.refl _ _).alloc (Nat.le_refl _) _
          have hlt : (World.heap w7).size < (World.heap w8).size := by rw [hw]; simp
          clear hw
          replace T := T.trans (hE.mono T.size)
          replace hc5 := (x5.out.ext T).cell
          replace hs5 := (x5.out.ext T).lt
          replace T15 := T15.trans (hE.mono T15.size)
          replace hc15 := (x15.out.ext T15).cell
          replace hs15 := (x15.out.ext T15).lt
          obtain ⟨p17, hp17⟩ : ∃ x, x = w7.heap.size := ⟨_, rfl⟩
          rw [← hp17] at x17 hlt ⊢
          have hp17' : w7.heap.size ≤ p17 := by omega
          clear hp17 hE hlt
          go_wp2_with fail
          refine (lawMay_any p _).mono ?_
          rintro e w9 ⟨rfl, hw9⟩
          subst hw9
          have h79 := hide T15
          have h49 := hide T
          have h47 := hide h47'
          go_upto_if 67 with fail
          go_cut [18] from 66 to 73 (fun s18 wx => ∃ A17 n17 c17, s18 = .int .i64 (withE p) ∧ n17 = n15 ∧ Hid (Box wx p17 24 (.slice A17 n17 c17)) ∧ Hid (Rd wE wx.heap.size wx A17 (withS a p)) ∧ Ext w7 wx ∧ Ext w4 wx)
          case first =>
            cases hmp : mayB p with
            | false =>
              have hE2 : Hid (withE p = 2) := hide (by unfold withE; rw [hmp]; rfl)
              have hM0 : withS a p = [] := by unfold withS; rw [hmp]; rfl
              have hn0 : Hid (n15 = 0) := hide (by rw [e15.out, hM0]; rfl)
              replace hM0 := hide hM0
              replace hmp := hide hmp
              go_wp2
              go_meet
              case rel => exact ⟨none, 0, 0, by rw [hE2.out], hn0.out.symm, x17, hide (by rw [hM0.out]; exact .inl rfl), T15, T⟩
            | true =>
              have hE2 : Hid (withE p = 0) := hide (by unfold withE; rw [hmp]; rfl)
              have hS2 : Hid (ofL (numL a ++ [p]) = withS a p) := hide (ones_with hf hmp)
              have hmay : Hid (∀ x ∈ numL a ++ [p], mayB x = true) := hide (ones_may hf hmp)
              replace hmp := hide hmp
              go_wp2_with fail
              refine (cloneI_any A6 m c6 (numL a) _ (r6.out.ext T) e6.out (by omega)).mono ?_
              rintro e w10 ⟨v, rfl, hO, hE⟩
              clear hc5 hs5 hc15 hs15 T T15
              have X17 := hide (x17.out.ext hE)
              obtain ⟨A9, c9, rfl, -, -, -⟩ := hO.rd
              rw [← e6.out] at hO ⊢
              replace hO := hide hO
              have hon := own_new (base := 0) (e := 3) intE w10 p w10.heap.size rfl (Nat.zero_le _)
              obtain ⟨A4, c4, hv1, hr4, -, -⟩ := hon.rd
              injection hv1 with hv2 hv3 hv4
              subst hv2
              clear hon hv3 hv4
              replace hr4 := hide hr4
              have hO1 := hide (hO.out.alloc (.cells (intE.cs p).toArray 3))
              have hsz := hE.size
              replace hE := hE.alloc hsz (.cells (intE.cs p).toArray 3)
              go_wp2_with (at_builtin; refine wpList_app tyInt rfl (.tmp 69) (.tmp 71) rfl rfl hO1.out rfl hr4.out rfl (by have := e6.out; simp at this ⊢; omega) (by simp; omega) ?_)
              intro v' w11 hown' hg hne' hnil
              have X17b := (X17.out.alloc (.cells (intE.cs p).toArray 3)).app hO1.out hg (by decide)
              have hE11 : Ext w9 w11 := Own.below hO1.out hE hg (by have := hE.size; simpa using this)
              clear hne' hnil hg hO1 hr4 hO X17
              obtain ⟨A8, c8, rfl, r8, -, -⟩ := hown'.rd
              have e8 : (numL a ++ [p]).length = m + 1 := by rw [List.length_append, ← e6.out]; rfl
              rw [e8] at ⊢
              replace e8 := hide e8
              replace r8 := hide r8
              clear hown'
              go_wp2_with fail
              refine (refOf_any A8 (m + 1) c8 (numL a ++ [p]) _ r8.out e8.out.symm (by omega) hmay.out).mono ?_
              rintro e w12 ⟨v, rfl, hO, hE⟩
              rw [hS2.out] at hO
              have X17c := X17b.ext hE
              have hE12 := hE11.trans (hE.mono hE11.size)
              obtain ⟨A9', c9', rfl, -, -, -⟩ := hO.rd
              rw [← e15.out] at hO ⊢
              have hcb := X17c.cell
              have hfb := X17c.free
              have hsb := X17c.lt
              have hO5 := hO.set X17c (by decide) (.slice A9' n15 c9')
              have hx6 := hide (X17c.set (.slice A9' n15 c9'))
              obtain ⟨A9'', c9'', heq, hr9, -, -⟩ := hO5.rd
              rw [← e15.out] at heq
              injection heq with heq1 heq2 heq3
              subst heq1
              have hrd := hide hr9
              have h712 : Ext w7 (w12.setCell ⟨p17, 0, none⟩ (.slice A9' n15 c9')) := (h79.out.trans (hE12.mono h79.out.size)).setCell (p := ⟨p17, 0, none⟩) hp17' _
              have h412 : Ext w4 (w12.setCell ⟨p17, 0, none⟩ (.slice A9' n15 c9')) := (h49.out.trans (hE12.mono h49.out.size)).setCell (p := ⟨p17, 0, none⟩) (Nat.le_trans h47.out hp17') _
              clear hO hO5 X17b hE11 hE12 hE hr9 heq2 heq3 e8 r8
              go_wp2
              go_meet
              case rel => exact ⟨_, _, _, by rw [hE2.out], rfl, hx6, hrd, h712, h412⟩
          case rest =>
            obtain ⟨A17, n17, c17, rfl, hn17, x17, r17, T15, T⟩ := hcut
            rw [hn17] at x17
            clear hn17 h79 h49 hp17'
            have T17 : Ext wc wc := Below.refl _ _
            have hc5 := (x5.out.ext T).cell
            have hs5 := (x5.out.ext T).lt
            have hc15 := (x15.out.ext T15).cell
            have hs15 := (x15.out.ext T15).lt
            have hc17 := x17.out.cell
            have hs17 := x17.out.lt
            have O15' := hide (O15.out.ext T15)
            clear O15
            go_wp2_with fail
            refine (without_any A5 n5 c5 a p _ (r5'.out.ext T) e5.out (by omega) hf hc5l).mono ?_
            rintro e w13 ⟨v, rfl, hO, hE⟩
            obtain ⟨KB, hKB⟩ : ∃ x, x = wc.heap.size := ⟨_, rfl⟩
            have hbK : Hid (∀ g, (Value.slice A15 n15 c15).ownBlock = some g → g < KB) := hide (fun g hg => by rw [hKB]; exact (O15'.out.lt g hg).2)
            have hK4 : w4.heap.size ≤ KB := by rw [hKB]; exact T.size
            rw [← hKB] at hO
            have O15 := hide (O15'.out.ext hE)
            replace T := T.trans (hE.mono T.size)
            replace hc5 := (x5.out.ext T).cell
            replace hs5 := (x5.out.ext T).lt
            replace T15 := T15.trans (hE.mono T15.size)
            replace hc15 := (x15.out.ext T15).cell
            replace hs15 := (x15.out.ext T15).lt
            replace T17 := T17.trans (hE.mono T17.size)
            replace hc17 := (x17.out.ext T17).cell
            replace hs17 := (x17.out.ext T17).lt
            obtain ⟨A19, c19, rfl, r19, -, -⟩ := hO.rd
            obtain ⟨n19, e19⟩ : ∃ m, m = (withoutS a p).length := ⟨_, rfl⟩
            have hl19 : n19 ≤ 1000 := by rw [e19]; exact withoutS_len a p (by rw [← e5.out]; omega)
            rw [← e19] at hO ⊢
            replace e19 := hide e19
            clear hE hKB O15'
            go_upto_region 22 with fail
            obtain ⟨w14, hw⟩ : ∃ x, x = World.alloc w13 (.cells #[.slice A19 n19 c19] 24) := ⟨_, rfl⟩
            rw [← hw]
            have x19 : Hid (Box w14 (World.heap w13).size 24 (.slice A19 n19 c19)) := hide (by rw [hw]; exact Box.new _ _ _)
            have hE : Ext w13 w14 := by rw [hw]; exact (Below.refl _ _).alloc (Nat.le_refl _) _
            have hlt : (World.heap w13).size < (World.heap w14).size := by rw [hw]; simp
            clear hw
            replace T := T.trans (hE.mono T.size)
            replace hc5 := (x5.out.ext T).cell
            replace hs5 := (x5.out.ext T).lt
            replace T15 := T15.trans (hE.mono T15.size)
            replace hc15 := (x15.out.ext T15).cell
            replace hs15 := (x15.out.ext T15).lt
            replace T17 := T17.trans (hE.mono T17.size)
            replace hc17 := (x17.out.ext T17).cell
            replace hs17 := (x17.out.ext T17).lt
            replace r19 := hide (r19.ext hE)
            have O19 := hide (hO.ext hE)
            replace O15 := hide (O15.out.ext hE)
            clear hO
            obtain ⟨p19, hp⟩ : ∃ x, x = (World.heap w13).size := ⟨_, rfl⟩
            rw [← hp] at x19 hlt ⊢
            clear hp
            have T19 : Ext w14 w14 := Below.refl _ _
            have hc19 := x19.out.cell
            have hs19 := x19.out.lt
            clear hE hlt
            have hS : Ext w14 w14.drew := (Below.refl _ _).drew
            replace T := T.drew
            replace T15 := T15.drew
            replace T17 := T17.drew
            replace T19 := T19.drew
            have hhas := hide (ones_has hf p)
            have hwo : Hid (ofL (someL (numL a) [p] false) = withoutS a p) := hide (ones_without hf p)
            refine wp_region_mix (fun W => Below w14.heap.size w14 W) [(0, true), (1, true), (3, true), (4, true), (2, false), (5, false), (6, true), (7, true), (8, true), (9, true), (10, true), (11, true), (12, true), (13, true), (14, true), (15, true), (16, true), (17, true), (18, true), (19, true), (20, true), (21, true), (22, true), (23, true), (24, true), (25, false), (26, true), (27, true), (28, true), (29, true), (30, true), (31, true), (32, false), (33, false), (34, false), (35, false), (36, true), (37, true)] (by kernel_rfl) (by kernel_rfl) (by kernel_rfl) (by kernel_rfl) (fun _ _ d _ _ h => by cases d <;> exact h) ?_ ?_
            · exact hS
            iterate 4
              apply mix_q rfl rfl
              · intro W hW
                have hcW := (bcell hW).1
                go_simp
                try exact rfl
              simp only [Act.put, List.setIfInBounds_toArray, List.set_cons_zero, List.set_cons_succ]
            refine mix_w rfl rfl (fun K hK => ?_)
            go_simp
            refine (has_any A5 n5 c5 a p _ (r5'.out.ext T) e5.out (by omega) hf).mono ?_
            rintro e w15 ⟨rfl, hE⟩
            refine hK _ _ ?_ ?_
            · exact hS.trans (hE.mono hS.size)
            clear hK K
            try simp only [Act.put, List.setIfInBounds_toArray, List.set_cons_zero, List.set_cons_succ]
            replace hS := hS.trans (hE.mono hS.size)
            replace T := T.trans (hE.mono T.size)
            replace T15 := T15.trans (hE.mono T15.size)
            replace T17 := T17.trans (hE.mono T17.size)
            replace T19 := T19.trans (hE.mono T19.size)
            rw [hhas.out]
            clear hE hhas
            refine mix_w rfl rfl (fun K hK => ?_)
            go_simp
            refine (refHas_any A6 m c6 (numL a) p _ (r6.out.ext T) e6.out (by omega)).mono ?_
            rintro e w16 ⟨rfl, hw⟩
            subst hw
            refine hK _ _ hS ?_
            clear hK K
            try simp only [Act.put, List.setIfInBounds_toArray, List.set_cons_zero, List.set_cons_succ]
            iterate 2
              apply mix_q rfl rfl
              · intro W hW
                have hcW := (bcell hW).1
                go_simp
                try exact rfl
              simp only [Act.put, List.setIfInBounds_toArray, List.set_cons_zero, List.set_cons_succ]
            iterate 3
              apply mix_on rfl (wanted_is rfl rfl rfl rfl rfl)
              · intro W hW
                have hcW := (bcell hW).1
                go_simp
                try exact rfl
              simp only [Act.put, List.setIfInBounds_toArray, List.set_cons_zero, List.set_cons_succ]
            iterate 2
              apply mix_q rfl rfl
              · intro W hW
                have hcW := (bcell hW).1
                go_simp
                try exact rfl
              simp only [Act.put, List.setIfInBounds_toArray, List.set_cons_zero, List.set_cons_succ]
            iterate 3
              apply mix_on rfl (wanted_is rfl rfl rfl rfl rfl)
              · intro W hW
                have hcW := (bcell hW).1
                go_simp
                try exact rfl
              simp only [Act.put, List.setIfInBounds_toArray, List.set_cons_zero, List.set_cons_succ]
            iterate 2
              apply mix_q rfl rfl
              · intro W hW
                have hcW := (bcell hW).1
                go_simp
                try exact rfl
              simp only [Act.put, List.setIfInBounds_toArray, List.set_cons_zero, List.set_cons_succ]
            iterate 3
              apply mix_on rfl (wanted_is rfl rfl rfl rfl rfl)
              · intro W hW
                have hcW := (bcell hW).1
                go_simp
                try exact rfl
              simp only [Act.put, List.setIfInBounds_toArray, List.set_cons_zero, List.set_cons_succ]
            iterate 2
              apply mix_q rfl rfl
              · intro W hW
                have hcW := (bcell hW).1
                go_simp
                try exact rfl
              simp only [Act.put, List.setIfInBounds_toArray, List.set_cons_zero, List.set_cons_succ]
            iterate 2
              apply mix_on rfl (wanted_is rfl rfl rfl rfl rfl)
              · intro W hW
                have hcW := (bcell hW).1
                go_simp
                try exact rfl
              simp only [Act.put, List.setIfInBounds_toArray, List.set_cons_zero, List.set_cons_succ]
            refine mix_won rfl (wanted_is rfl rfl rfl rfl rfl) (fun K hK => ?_)
            go_simp
            refine (refSame_any A15 A17 n15 c15 n15 c17 (withS a p) (withS a p) _ (r15.out.ext T15) e15.out (by omega) (r17.out.ext T17) e15.out).mono ?_
            rintro e w17 ⟨rfl, hE⟩
            refine hK _ _ ?_ ?_
            · exact hS.trans (hE.mono hS.size)
            clear hK K
            try simp only [Act.put, List.setIfInBounds_toArray, List.set_cons_zero, List.set_cons_succ]
            replace hS := hS.trans (hE.mono hS.size)
            replace T := T.trans (hE.mono T.size)
            replace T15 := T15.trans (hE.mono T15.size)
            replace T17 := T17.trans (hE.mono T17.size)
            replace T19 := T19.trans (hE.mono T19.size)
            clear hE
            iterate 1
              apply mix_on rfl (wanted_is rfl rfl rfl rfl rfl)
              · intro W hW
                have hcW := (bcell hW).1
                go_simp
                try exact rfl
              simp only [Act.put, List.setIfInBounds_toArray, List.set_cons_zero, List.set_cons_succ]
            iterate 2
              apply mix_q rfl rfl
              · intro W hW
                have hcW := (bcell hW).1
                go_simp
                try exact rfl
              simp only [Act.put, List.setIfInBounds_toArray, List.set_cons_zero, List.set_cons_succ]
            iterate 3
              apply mix_on rfl (wanted_is rfl rfl rfl rfl rfl)
              · intro W hW
                have hcW := (bcell hW).1
                go_simp
                try exact rfl
              simp only [Act.put, List.setIfInBounds_toArray, List.set_cons_zero, List.set_cons_succ]
            refine mix_won rfl (wanted_is rfl rfl rfl rfl rfl) (fun K hK => ?_)
            go_simp
            have hE : Ext w17 (w17.alloc (.cells #[.int .i64 p] 3)) := (Below.refl _ _).alloc (Nat.le_refl _) _
            have hon : Own intE 3 0 (w17.alloc (.cells #[.int .i64 p] 3)) (.slice (some ⟨w17.heap.size, 0, none⟩) 1 1) [p] := own_new (base := 0) (e := 3) intE w17 p w17.heap.size rfl (Nat.zero_le _)
            obtain ⟨A4, c4, hv1, r20, -, -⟩ := hon.rd
            injection hv1 with hv2 hv3 hv4
            subst hv2
            refine hK _ _ (hS.trans (hE.mono hS.size)) ?_
            clear hK K hon hv3 hv4
            try simp only [Act.put, List.setIfInBounds_toArray, List.set_cons_zero, List.set_cons_succ]
            obtain ⟨w18, hw18⟩ : ∃ x, x = w17.alloc (.cells #[.int .i64 p] 3) := ⟨_, rfl⟩
            rw [← hw18] at hE r20 ⊢
            clear hw18
            replace hS := hS.trans (hE.mono hS.size)
            replace T := T.trans (hE.mono T.size)
            replace T15 := T15.trans (hE.mono T15.size)
            replace T17 := T17.trans (hE.mono T17.size)
            replace T19 := T19.trans (hE.mono T19.size)
            clear hE
            generalize w17.heap.size = g20 at *
            replace r20 := hide r20
            refine mix_won rfl (wanted_is rfl rfl rfl rfl rfl) (fun K hK => ?_)
            go_simp
            refine (refSome_any false A6 (some ⟨g20, 0, none⟩) m c6 1 1 (numL a) [p] _ (r6.out.ext T) r20.out e6.out rfl (by omega) (by omega)).mono ?_
            rintro e w19 ⟨v, rfl, hO, hE⟩
            refine hK _ _ ?_ ?_
            · exact hS.trans (hE.mono hS.size)
            clear hK K
            try simp only [Act.put, List.setIfInBounds_toArray, List.set_cons_zero, List.set_cons_succ]
            replace hS := hS.trans (hE.mono hS.size)
            replace T := T.trans (hE.mono T.size)
            replace T15 := T15.trans (hE.mono T15.size)
            replace T17 := T17.trans (hE.mono T17.size)
            replace T19 := T19.trans (hE.mono T19.size)
            obtain ⟨A21, c21, rfl, r21, -, -⟩ := hO.rd
            obtain ⟨m21, e21⟩ : ∃ m, m = (someL (numL a) [p] false).length := ⟨_, rfl⟩
            have hl21 : m21 ≤ m := by rw [e21, e6.out]; exact List.length_filter_le _ _
            rw [← e21]
            replace e21 := hide e21
            replace r21 := hide r21
            clear hO hE
            refine mix_won rfl (wanted_is rfl rfl rfl rfl rfl) (fun K hK => ?_)
            go_simp
            refine (refOf_any A21 m21 c21 (someL (numL a) [p] false) _ r21.out e21.out (by omega) (some_may hf _ _)).mono ?_
            rintro e w20 ⟨v, rfl, hO, hE⟩
            refine hK _ _ ?_ ?_
            · exact hS.trans (hE.mono hS.size)
            clear hK K
            try simp only [Act.put, List.setIfInBounds_toArray, List.set_cons_zero, List.set_cons_succ]
            replace hS := hS.trans (hE.mono hS.size)
            replace T := T.trans (hE.mono T.size)
            replace T15 := T15.trans (hE.mono T15.size)
            replace T17 := T17.trans (hE.mono T17.size)
            replace T19 := T19.trans (hE.mono T19.size)
            rw [hwo.out] at hO
            obtain ⟨A22, c22, rfl, r22, -, -⟩ := hO.rd
            rw [← e19.out]
            replace r22 := hide r22
            clear hO hE
            refine mix_won rfl (wanted_is rfl rfl rfl rfl rfl) (fun K hK => ?_)
            go_simp
            refine (refSame_any A19 A22 n19 c19 n19 c22 (withoutS a p) (withoutS a p) _ (r19.out.ext T19) e19.out (by omega) r22.out e19.out).mono ?_
            rintro e w21 ⟨rfl, hE⟩
            refine hK _ _ ?_ ?_
            · exact hS.trans (hE.mono hS.size)
            clear hK K
            try simp only [Act.put, List.setIfInBounds_toArray, List.set_cons_zero, List.set_cons_succ]
            replace hS := hS.trans (hE.mono hS.size)
            replace T := T.trans (hE.mono T.size)
            replace T15 := T15.trans (hE.mono T15.size)
            replace T17 := T17.trans (hE.mono T17.size)
            replace T19 := T19.trans (hE.mono T19.size)
            clear hE
            iterate 1
              apply mix_on rfl (wanted_is rfl rfl rfl rfl rfl)
              · intro W hW
                have hcW := (bcell hW).1
                go_simp
                try exact rfl
              simp only [Act.put, List.setIfInBounds_toArray, List.set_cons_zero, List.set_cons_succ]
            iterate 1
              apply mix_q rfl rfl
              · intro W hW
                have hcW := (bcell hW).1
                go_simp
                try exact rfl
              simp only [Act.put, List.setIfInBounds_toArray, List.set_cons_zero, List.set_cons_succ]
            refine mix_nil ?_
            clear r20 r21 e21 hl21 r22 hwo hS hc5 hs5
            have hc15 := (x15.out.ext T15).cell
            have hs15 := (x15.out.ext T15).lt
            have hc19 := (x19.out.ext T19).cell
            have hs19 := (x19.out.ext T19).lt
            replace O15 := hide (O15.out.ext T19)
            replace O19 := hide (O19.out.ext T19)
            clear T15 T17 T19
            go_upto_block 4 with fail
            go_wp2
            go_loopw [118] (fun i wr => ∃ (j : Nat) (r1 r2 : List Nat), j ≤ 2 ∧ i = .int .i64 j ∧ Hid (Own wE 43 w4.heap.size wr (.slice A15 n15 c15) r1) ∧ Hid (Own wE 43 KB wr (.slice A19 n19 c19) r2) ∧ Ext w4 wr) (fun i _ => 2 - (intOf i).toNat)
            case atStart => exact ⟨0, _, _, by omega, rfl, O15, O19, T⟩
            case round =>
              clear O15 O19 T hc15 hs15 hc19 hs19
              obtain ⟨j, r1, r2, hj, rfl, O15, O19, T⟩ := hrel
              by_cases hj2 : j < 2
              · rcases (show j = 0 ∨ j = 1 by omega) with rfl | rfl
                · have ix := index_b0 wr A15 A19 n15 n19 c15 c19
                  have hlen : Hid (List.length r1 = n15) := hide (by obtain ⟨A', c', heq, -, -, -⟩ := O15.out.rd; injection heq with _ h _; exact h.symm)
                  go_upto_region 27 with fail
                  clear ix
                  obtain ⟨wb, hw⟩ : ∃ x, x = World.alloc wr (.cells #[.slice A15 n15 c15] 24) := ⟨_, rfl⟩
                  rw [← hw]
                  have x21 : Hid (Box wb (World.heap wr).size 24 (.slice A15 n15 c15)) := hide (by rw [hw]; exact Box.new _ _ _)
                  have hE : Ext wr wb := by rw [hw]; exact (Below.refl _ _).alloc (Nat.le_refl _) _
                  have hlt : (World.heap wr).size < (World.heap wb).size := by rw [hw]; simp
                  clear hw
                  replace T := T.trans (hE.mono T.size)
                  replace O15 := hide (O15.out.ext hE)
                  replace O19 := hide (O19.out.ext hE)
                  obtain ⟨p21, hp⟩ : ∃ x, x = (World.heap wr).size := ⟨_, rfl⟩
                  rw [← hp] at x21 hlt ⊢
                  clear hp
                  have hc21 := x21.out.cell
                  have hs21 := x21.out.lt
                  clear hE hlt
                  go_wp2
                  go_loopw [124] (fun i wq => ∃ (q : Nat) (r : List Nat), q ≤ n15 ∧ i = .int .i64 q ∧ Hid (r.length = n15) ∧ Hid (Own wE 43 w4.heap.size wq (.slice A15 n15 c15) r) ∧ Hid (Own wE 43 KB wq (.slice A19 n19 c19) r2) ∧ Hid (Box wq p21 24 (.slice A15 n15 c15)) ∧ Ext w4 wq) (fun i _ => n15 - (intOf i).toNat)
                  case atStart => exact ⟨0, _, Nat.zero_le _, rfl, hlen, O15, O19, x21, T⟩
                  case round =>
                    clear O15 O19 T hc21 hs21 x21 hlen
                    obtain ⟨q, r, hq, rfl, hlen, O15, O19, x21, T⟩ := hrel
                    have hc21 := x21.out.cell
                    have hs21 := x21.out.lt
                    by_cases hqn : q < n15
                    · have hqn' : (q : Int) < (n15 : Int) := by omega
                      obtain ⟨A', c', heq, rr, -, -⟩ := O15.out.rd
                      injection heq with h1' h2' h3'
                      subst h1'
                      clear h2' h3'
                      obtain ⟨x, hx⟩ := get_some (xs := r) (i := q) (by rw [hlen.out]; exact hqn)
                      obtain ⟨b', off', hA', ra'⟩ := rr.at_ (i := q) (by rw [hlen.out]; exact hqn)
                      have hxc := ra'.word hx
                      obtain ⟨x', hx'⟩ : ∃ x', x' = (x + 1) % 18446744073709551616 := ⟨_, rfl⟩
                      have u8 : IntKind.u64.wrap ((x : Int) + 1) = (x' : Int) := by rw [IntKind.wrap_u64, hx']; omega
                      obtain ⟨g, u, hgA, hg1, hg2, hg3, hg4, hS⟩ := O15.out.setWord hqn x'
                      rw [hgA] at hA'
                      injection hA' with hA'
                      injection hA' with hA1 hA2
                      subst hA1 hA2
                      subst hgA
                      rw [Nat.zero_add] at hxc
                      have hnebox : p21 ≠ g := fun hc => by have := O15.out.ne_box x21.out (by decide); rw [hc] at this; exact this rfl
                      have hneo : (.slice A19 n19 c19 : Value).ownBlock ≠ some g := (fun hc => by have h1 := (O19.out.lt g hc).1; have h2 := hbK.out g rfl; omega)
                      have hO2 := hide (ownsRow_setCell_other (a := ⟨g, q, none⟩) O19.out hneo (.int .u64 (x' : Int)) : Own wE 43 KB (World.setCell _ ⟨g, q, none⟩ (.int .u64 (x' : Int))) (.slice A19 n19 c19) r2)
                      have hx2' := hide (x21.out.far (p := ⟨g, q, none⟩) hnebox (.int .u64 (x' : Int)))
                      have hT2 := T.setCell (p := ⟨g, q, none⟩) hg1 (.int .u64 (x' : Int))
                      have hS2 := hide hS
                      have hlen2 : Hid ((r.set q x').length = n15) := hide (by rw [List.length_set]; exact hlen.out)
                      have u5 : IntKind.i64.wrap (q : Int) = (q : Int) := IntWalk.i64_in _ (by omega)
                      clear hS ra' rr hneo hg3
                      replace hx := hide hx
                      replace hx' := hide hx'
                      go_wp2
                      refine ⟨?_, ?_⟩
                      · first
                          | exact ⟨q + 1, _, by omega, by go_num, hlen2, hS2, hO2, hx2', hT2⟩
                          | ((repeat apply Exists.intro); exact ⟨⟨q + 1, _, by omega, by go_num, hlen2, hS2, hO2, hx2', hT2⟩, rfl⟩)
                      · first | (simp [intOf, lenV]; omega) | (simp [intOf]; omega) | (simp [intOf]; done)
                    · have hqn' : ¬ (q : Int) < (n15 : Int) := by omega
                      clear hc21 hs21
                      go_wp2
                      refine ⟨?_, ?_⟩
                      · first
                          | exact ⟨1, _, _, by omega, by go_num, O15, O19, T⟩
                          | ((repeat apply Exists.intro); exact ⟨⟨1, _, _, by omega, by go_num, O15, O19, T⟩, rfl⟩)
                      · first | (simp [intOf, lenV]; omega) | (simp [intOf]; omega) | (simp [intOf]; done)
                · have ix := index_b1 wr A15 A19 n15 n19 c15 c19
                  have hlen : Hid (List.length r2 = n19) := hide (by obtain ⟨A', c', heq, -, -, -⟩ := O19.out.rd; injection heq with _ h _; exact h.symm)
                  go_upto_region 27 with fail
                  clear ix
                  obtain ⟨wb, hw⟩ : ∃ x, x = World.alloc wr (.cells #[.slice A19 n19 c19] 24) := ⟨_, rfl⟩
                  rw [← hw]
                  have x21 : Hid (Box wb (World.heap wr).size 24 (.slice A19 n19 c19)) := hide (by rw [hw]; exact Box.new _ _ _)
                  have hE : Ext wr wb := by rw [hw]; exact (Below.refl _ _).alloc (Nat.le_refl _) _
                  have hlt : (World.heap wr).size < (World.heap wb).size := by rw [hw]; simp
                  clear hw
                  replace T := T.trans (hE.mono T.size)
                  replace O15 := hide (O15.out.ext hE)
                  replace O19 := hide (O19.out.ext hE)
                  obtain ⟨p21, hp⟩ : ∃ x, x = (World.heap wr).size := ⟨_, rfl⟩
                  rw [← hp] at x21 hlt ⊢
                  clear hp
                  have hc21 := x21.out.cell
                  have hs21 := x21.out.lt
                  clear hE hlt
                  go_wp2
                  go_loopw [124] (fun i wq => ∃ (q : Nat) (r : List Nat), q ≤ n19 ∧ i = .int .i64 q ∧ Hid (r.length = n19) ∧ Hid (Own wE 43 KB wq (.slice A19 n19 c19) r) ∧ Hid (Own wE 43 w4.heap.size wq (.slice A15 n15 c15) r1) ∧ Hid (Box wq p21 24 (.slice A19 n19 c19)) ∧ Ext w4 wq) (fun i _ => n19 - (intOf i).toNat)
                  case atStart => exact ⟨0, _, Nat.zero_le _, rfl, hlen, O19, O15, x21, T⟩
                  case round =>
                    clear O15 O19 T hc21 hs21 x21 hlen
                    obtain ⟨q, r, hq, rfl, hlen, O19, O15, x21, T⟩ := hrel
                    have hc21 := x21.out.cell
                    have hs21 := x21.out.lt
                    by_cases hqn : q < n19
                    · have hqn' : (q : Int) < (n19 : Int) := by omega
                      obtain ⟨A', c', heq, rr, -, -⟩ := O19.out.rd
                      injection heq with h1' h2' h3'
                      subst h1'
                      clear h2' h3'
                      obtain ⟨x, hx⟩ := get_some (xs := r) (i := q) (by rw [hlen.out]; exact hqn)
                      obtain ⟨b', off', hA', ra'⟩ := rr.at_ (i := q) (by rw [hlen.out]; exact hqn)
                      have hxc := ra'.word hx
                      obtain ⟨x', hx'⟩ : ∃ x', x' = (x + 1) % 18446744073709551616 := ⟨_, rfl⟩
                      have u8 : IntKind.u64.wrap ((x : Int) + 1) = (x' : Int) := by rw [IntKind.wrap_u64, hx']; omega
                      obtain ⟨g, u, hgA, hg1, hg2, hg3, hg4, hS⟩ := O19.out.setWord hqn x'
                      rw [hgA] at hA'
                      injection hA' with hA'
                      injection hA' with hA1 hA2
                      subst hA1 hA2
                      subst hgA
                      rw [Nat.zero_add] at hxc
                      have hnebox : p21 ≠ g := fun hc => by have := O19.out.ne_box x21.out (by decide); rw [hc] at this; exact this rfl
                      have hneo : (.slice A15 n15 c15 : Value).ownBlock ≠ some g := (fun hc => by have h2 := hbK.out g hc; omega)
                      have hO2 := hide (ownsRow_setCell_other (a := ⟨g, q, none⟩) O15.out hneo (.int .u64 (x' : Int)) : Own wE 43 w4.heap.size (World.setCell _ ⟨g, q, none⟩ (.int .u64 (x' : Int))) (.slice A15 n15 c15) r1)
                      have hx2' := hide (x21.out.far (p := ⟨g, q, none⟩) hnebox (.int .u64 (x' : Int)))
                      have hT2 := T.setCell (p := ⟨g, q, none⟩) (Nat.le_trans hK4 hg1) (.int .u64 (x' : Int))
                      have hS2 := hide hS
                      have hlen2 : Hid ((r.set q x').length = n19) := hide (by rw [List.length_set]; exact hlen.out)
                      have u5 : IntKind.i64.wrap (q : Int) = (q : Int) := IntWalk.i64_in _ (by omega)
                      clear hS ra' rr hneo hg3
                      replace hx := hide hx
                      replace hx' := hide hx'
                      go_wp2
                      refine ⟨?_, ?_⟩
                      · first
                          | exact ⟨q + 1, _, by omega, by go_num, hlen2, hS2, hO2, hx2', hT2⟩
                          | ((repeat apply Exists.intro); exact ⟨⟨q + 1, _, by omega, by go_num, hlen2, hS2, hO2, hx2', hT2⟩, rfl⟩)
                      · first | (simp [intOf, lenV]; omega) | (simp [intOf]; omega) | (simp [intOf]; done)
                    · have hqn' : ¬ (q : Int) < (n19 : Int) := by omega
                      clear hc21 hs21
                      go_wp2
                      refine ⟨?_, ?_⟩
                      · first
                          | exact ⟨2, _, _, by omega, by go_num, O15, O19, T⟩
                          | ((repeat apply Exists.intro); exact ⟨⟨2, _, _, by omega, by go_num, O15, O19, T⟩, rfl⟩)
                      · first | (simp [intOf, lenV]; omega) | (simp [intOf]; omega) | (simp [intOf]; done)
              · obtain rfl : j = 2 := by omega
                clear O15 O19
                have hc5 := (x5.out.ext T).cell
                have hs5 := (x5.out.ext T).lt
                have hc2 := (x2.out.ext T).cell
                have hs2 := (x2.out.ext T).lt
                go_upto_region 33 with fail
                have hS : Ext wr wr.drew := (Below.refl _ _).drew
                replace T := T.drew
                refine wp_region_mix (fun W => Below wr.heap.size wr W) [(0, true), (1, true), (2, false), (3, false), (4, true)] (by kernel_rfl) (by kernel_rfl) (by kernel_rfl) (by kernel_rfl) (fun _ _ d _ _ h => by cases d <;> exact h) ?_ ?_
                · exact hS
                iterate 2
                  apply mix_q rfl rfl
                  · intro W hW
                    have hcW := (bcell hW).1
                    go_simp
                    try exact rfl
                  simp only [Act.put, List.setIfInBounds_toArray, List.set_cons_zero, List.set_cons_succ]
                refine mix_w rfl rfl (fun K hK => ?_)
                go_simp
                refine (own_any A1 n1 c1 xs _ (h1.out.ext T) hn1.out hc1).mono ?_
                rintro e w22 ⟨v, rfl, hO, hE⟩
                refine hK _ _ ?_ ?_
                · exact hS.trans (hE.mono hS.size)
                clear hK K
                try simp only [Act.put, List.setIfInBounds_toArray, List.set_cons_zero, List.set_cons_succ]
                replace hS := hS.trans (hE.mono hS.size)
                replace T := T.trans (hE.mono T.size)
                rw [← ha.out] at hO
                obtain ⟨A23, c23, rfl, r23, -, -⟩ := hO.rd
                rw [← e5.out]
                replace r23 := hide r23
                clear hO hE
                refine mix_w rfl rfl (fun K hK => ?_)
                go_simp
                refine (refSame_any A5 A23 n5 c5 n5 c23 a a _ (r5'.out.ext T) e5.out (by omega) r23.out e5.out).mono ?_
                rintro e w23 ⟨rfl, hE⟩
                refine hK _ _ ?_ ?_
                · exact hS.trans (hE.mono hS.size)
                clear hK K
                try simp only [Act.put, List.setIfInBounds_toArray, List.set_cons_zero, List.set_cons_succ]
                replace hS := hS.trans (hE.mono hS.size)
                replace T := T.trans (hE.mono T.size)
                clear hE
                iterate 1
                  apply mix_q rfl rfl
                  · intro W hW
                    have hcW := (bcell hW).1
                    go_simp
                    try exact rfl
                  simp only [Act.put, List.setIfInBounds_toArray, List.set_cons_zero, List.set_cons_succ]
                refine mix_nil ?_
                go_wp2
                refine ⟨?_, ?_⟩
                · first
                    | exact ⟨k + 1, by omega, by omega, by go_num, T⟩
                    | ((repeat apply Exists.intro); exact ⟨⟨k + 1, by omega, by omega, by go_num, T⟩, rfl⟩)
                · first | (simp [intOf, lenV]; omega) | (simp [intOf]; omega) | (simp [intOf]; done)
    · have hlt' : ¬ (k : Int) < (nn : Int) := by omega
      go_wp2
      go_ret
      exact ⟨rfl, hBh.out.trans (T.mono hBh.out.size)⟩
end Go.Proofs.YtkiklbngfocljaaDoor
