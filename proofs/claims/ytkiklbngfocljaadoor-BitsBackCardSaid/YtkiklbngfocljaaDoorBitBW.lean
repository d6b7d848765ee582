/- BitsBack: the walk. -/
import Derived.Test.YtkiklbngfocljaaDoorBitBP
import Derived.Test.YtkiklbngfocljaaDoorBitW
namespace Go.Proofs.YtkiklbngfocljaaDoor
open Go.RowKit

theorem isNaN_any (x : Int) (w : World) : Calls Tryd.prog 60 #[.int .i64 x] w fun e w' => e = .returned (.bool false) ∧ w' = w := by
  go_enter Tryd.func60, Tryd.ntmps60
  go_wp2
  go_ret
  exact ⟨rfl, rfl⟩
theorem less_any (x y : Int) (w : World) : Calls Tryd.prog 54 #[.int .i64 x, .int .i64 y] w fun e w' => e = .returned (.bool (decide (x < y))) ∧ w' = w := by
  go_enter Tryd.func54, Tryd.ntmps54
  go_wp2_with fail
  refine (isNaN_any x _).mono ?_
  rintro e w1 ⟨rfl, hw⟩
  subst hw
  go_wp2
  go_ret
  exact ⟨rfl, rfl⟩
/-- a rising row is sorted -/
theorem sorted_any (A : Option Addr) (n c : Nat) (l : List Int) (w : World) (h : Rd intE w.heap.size w A l) (hn : n = l.length) (hl : n ≤ 1000000) (hs : l.Pairwise (· < ·)) :
    Calls Tryd.prog 37 #[.slice A n c] w fun e w' => e = .returned (.bool true) ∧ Ext w w' := by
  replace h := hide h
  replace hn := hide hn
  replace hs := hide hs
  have u0 : IntKind.i64.wrap ((n : Int) - 1) = (n : Int) - 1 := IntWalk.i64_in _ (by omega)
  go_enter Tryd.func37, Tryd.ntmps37
  go_wp2
  go_loopw [3] (fun i wr => ∃ k : Int, -1 ≤ k ∧ k < (n : Int) ∧ i = .int .i64 k ∧ Ext w wr) (fun i _ => (intOf i + 1).toNat)
  case atStart => exact ⟨(n : Int) - 1, by omega, by omega, rfl, Below.refl _ _⟩
  case round =>
    obtain ⟨k, hk, hkn, rfl, hB⟩ := hrel
    obtain ⟨hcc, hff⟩ := bcell hB
    have hsz := hB.size
    by_cases hk0 : 0 < k
    · obtain ⟨m, rfl⟩ : ∃ m : Nat, k = m := ⟨k.toNat, by omega⟩
      obtain ⟨q, hq⟩ : ∃ q : Nat, m = q + 1 := ⟨m - 1, by omega⟩
      have u1 : IntKind.i64.wrap ((m : Int) - 1) = (q : Int) := by rw [IntWalk.i64_in _ (by omega)]; omega
      have u2 : IntKind.i64.wrap (m : Int) = (m : Int) := IntWalk.i64_in _ (by omega)
      have u3 : IntKind.i64.wrap (q : Int) = (q : Int) := IntWalk.i64_in _ (by omega)
      obtain ⟨b, off, rfl, ra⟩ := h.out.at_ (i := m) (by rw [← hn.out]; omega)
      obtain ⟨x, hx⟩ := get_some (xs := l) (i := m) (by rw [← hn.out]; omega)
      obtain ⟨y, hy⟩ := get_some (xs := l) (i := q) (by rw [← hn.out]; omega)
      have hb := ra.1
      have hxc := ra.int hx
      have hyc := ra.int hy
      have hlt : ¬ (x < y) := by
        obtain ⟨h1, h2⟩ := List.getElem?_eq_some_iff.1 hx
        obtain ⟨h3, h4⟩ := List.getElem?_eq_some_iff.1 hy
        have := List.pairwise_iff_getElem.1 hs.out q m h3 h1 (by omega)
        omega
      have hd : Hid (decide (x < y) = false) := hide (decide_eq_false hlt)
      have hqn : (q : Int) < (n : Int) := by omega
      have hqm : q < m := by omega
      replace hx := hide hx
      replace hy := hide hy
      replace ra := hide ra
      replace hq := hide hq
      replace hlt := hide hlt
      go_wp2
      refine wp_region_mix (fun W => Below w.heap.size w W) [(0, true), (1, true), (2, true), (3, true), (4, true), (5, true), (6, true), (7, true), (8, true), (9, false)] (by kernel_rfl) (by kernel_rfl) (by kernel_rfl) (by kernel_rfl) (fun _ _ d _ _ h => by cases d <;> exact h) ?_ ?_
      · exact hB.drew
      iterate 9
        apply mix_q rfl rfl
        · intro W hW
          have hcW := (bcell hW).1
          go_simp
          try exact rfl
        simp only [Act.put, List.setIfInBounds_toArray, List.set_cons_zero, List.set_cons_succ]
      refine mix_w rfl rfl (fun K hK => ?_)
      go_simp
      refine (less_any x y _).mono ?_
      rintro e w2 ⟨rfl, hw⟩
      subst hw
      rw [hd.out]
      refine hK _ _ hB.drew ?_
      clear hK K
      try simp only [Act.put, List.setIfInBounds_toArray, List.set_cons_zero, List.set_cons_succ]
      refine mix_nil ?_
      go_wp2
      refine ⟨?_, ?_⟩
      · first
          | exact ⟨(q : Int), by omega, hqn, rfl, hB.drew⟩
          | ((repeat apply Exists.intro); exact ⟨⟨(q : Int), by omega, hqn, rfl, hB.drew⟩, rfl⟩)
      · first | (simp [intOf, lenV]; omega) | (simp [intOf]; omega) | (simp [intOf]; done)
    · go_wp2
      go_ret
      exact ⟨rfl, hB⟩
set_option maxRecDepth 100000 in
set_option maxHeartbeats 8000000 in
theorem bitsBack_any (A1 : Option Addr) (n1 c1 : Nat) (xs : List Nat) (i : Int) (w : World) (hn1 : n1 = xs.length) (hc1 : n1 ≤ c1) (h1 : Rd wE w.heap.size w A1 xs) (hfx : Fit xs) (hL : LaidT w) :
    Calls Tryd.prog 7 #[.agg #[.slice A1 n1 c1], .int .i64 i] w fun e w' => e = .returned (.bool true) ∧ Ext w w' := by
  replace h1 := hide h1
  replace hn1 := hide hn1
  replace hL := hide hL
  go_enter Tryd.func7, Tryd.ntmps7
  go_upto_region 1 with fail
  obtain ⟨w0, hw⟩ : ∃ x, x = World.alloc w (.cells #[.slice A1 n1 c1] 24) := ⟨_, rfl⟩
  rw [← hw]
  have x2 : Hid (Box w0 (World.heap w).size 24 (.slice A1 n1 c1)) := hide (by rw [hw]; exact Box.new _ _ _)
  have hE : Ext w w0 := by rw [hw]; exact (Below.refl _ _).alloc (Nat.le_refl _) _
  have hlt : (World.heap w).size < (World.heap w0).size := by rw [hw]; simp
  clear hw
  have hB := hE
  clear hlt
  obtain ⟨b2, hb2⟩ : ∃ b, b = w.heap.size := ⟨_, rfl⟩
  rw [← hb2] at x2 ⊢
  go_wp2_with fail
  refine (wakes_any _ (hL.out.ext hB)).mono ?_
  rintro e w1 ⟨rfl, hE1⟩
  have hc2 := (x2.out.ext hE1).cell
  have hs2 := (x2.out.ext hE1).lt
  clear hE
  have hE := hE1
  replace hB := hB.trans (hE.mono hB.size)
  clear hE hE1 x2 hb2
  go_wp2_with fail
  refine (own_any A1 n1 c1 xs _ (h1.out.ext hB) hn1.out hc1).mono ?_
  rintro e w2 ⟨v, rfl, hO, hE⟩
  replace hB := hB.trans (hE.mono hB.size)
  have hf : Fit (xs.take 160) := fun x hx => hfx x (List.mem_of_mem_take hx)
  have hl : (xs.take 160).length ≤ 160 := by rw [List.length_take]; omega
  generalize xs.take 160 = a at *
  obtain ⟨A5, c5, rfl, r5, hc5l, -⟩ := hO.rd
  obtain ⟨n5, e5⟩ : ∃ m, m = a.length := ⟨_, rfl⟩
  rw [← e5] at hl hc5l ⊢
  replace e5 := hide e5
  clear hO hE hc2 hs2 h1 hn1 hc1 hfx
  go_wp2_with fail
  obtain ⟨w3, hw⟩ : ∃ x, x = World.alloc w2 (.cells #[.slice A5 n5 c5] 24) := ⟨_, rfl⟩
  rw [← hw]
  have x5 : Hid (Box w3 (World.heap w2).size 24 (.slice A5 n5 c5)) := hide (by rw [hw]; exact Box.new _ _ _)
  have hE : Ext w2 w3 := by rw [hw]; exact (Below.refl _ _).alloc (Nat.le_refl _) _
  have hlt : (World.heap w2).size < (World.heap w3).size := by rw [hw]; simp
  clear hw
  have r5' := hide (r5.ext hE)
  clear r5
  replace hB := hB.trans (hE.mono hB.size)
  obtain ⟨p5, hp⟩ : ∃ x, x = (World.heap w2).size := ⟨_, rfl⟩
  rw [← hp] at x5 hlt ⊢
  clear hp
  have T5 : Ext w3 w3 := Below.refl _ _
  have hc5 := x5.out.cell
  have hs5 := x5.out.lt
  clear hE hlt
  refine (list_any A5 n5 c5 a _ (r5'.out.ext T5) e5.out (by omega) hf (hL.out.ext hB)).mono ?_
  rintro e w4 ⟨v, rfl, hO, hE⟩
  replace hB := hB.trans (hE.mono hB.size)
  replace T5 := T5.trans (hE.mono T5.size)
  replace hc5 := (x5.out.ext T5).cell
  replace hs5 := (x5.out.ext T5).lt
  obtain ⟨A6, c6, rfl, r6, -, -⟩ := hO.rd
  obtain ⟨m, e6⟩ : ∃ m, m = (natsI (nums (ofW a))).length := ⟨_, rfl⟩
  have e6' : m = (nums (ofW a)).length := by rw [e6]; unfold natsI; rw [List.length_map]
  have hm : m ≤ 20000 := by
    have h1 := nums_length (ofW a)
    have h2 := ofW_le a
    have h3 := e5.out
    omega
  rw [← e6]
  replace e6 := hide e6
  replace e6' := hide e6'
  replace r6 := hide r6
  have T6 : Ext w4 w4 := Below.refl _ _
  clear hO hE
  go_wp2_with fail
  refine (ofI_any A6 m c6 (natsI (nums (ofW a))) _ r6.out e6.out (by omega)).mono ?_
  rintro e w5 ⟨v, rfl, hO, hE⟩
  rw [back_E hf]
  rw [back_S hf] at hO
  replace hB := hB.trans (hE.mono hB.size)
  replace T5 := T5.trans (hE.mono T5.size)
  replace hc5 := (x5.out.ext T5).cell
  replace hs5 := (x5.out.ext T5).lt
  replace T6 := T6.trans (hE.mono T6.size)
  obtain ⟨A7, c7, rfl, r7, -, -⟩ := hO.rd
  obtain ⟨n7, e7⟩ : ∃ m, m = (ofW a).length := ⟨_, rfl⟩
  have hl7 : n7 ≤ 1000 := by rw [e7]; exact Nat.le_trans (ofW_le a) (by rw [← e5.out]; omega)
  rw [← e7]
  replace e7 := hide e7
  clear hO hE
  go_upto_region 6 with fail
  obtain ⟨w6, hw⟩ : ∃ x, x = World.alloc w5 (.cells #[.slice A7 n7 c7] 24) := ⟨_, rfl⟩
  rw [← hw]
  have x7 : Hid (Box w6 (World.heap w5).size 24 (.slice A7 n7 c7)) := hide (by rw [hw]; exact Box.new _ _ _)
  have hE : Ext w5 w6 := by rw [hw]; exact (Below.refl _ _).alloc (Nat.le_refl _) _
  have hlt : (World.heap w5).size < (World.heap w6).size := by rw [hw]; simp
  clear hw
  replace hB := hB.trans (hE.mono hB.size)
  replace T5 := T5.trans (hE.mono T5.size)
  replace hc5 := (x5.out.ext T5).cell
  replace hs5 := (x5.out.ext T5).lt
  replace T6 := T6.trans (hE.mono T6.size)
  have r7' := hide (r7.ext hE)
  obtain ⟨p7, hp⟩ : ∃ x, x = (World.heap w5).size := ⟨_, rfl⟩
  rw [← hp] at x7 hlt ⊢
  clear hp
  have hc7 := x7.out.cell
  have hs7 := x7.out.lt
  clear hE hlt r7
  go_cut [57] from 25 to 57 (fun s57 wx => s57 = .bool false ∧ Ext w6 wx)
  case first =>
    have g1 : chkW (ofW a) = 0 := (chk_good (ofW_fit hf)).2 (ofW_good hf)
    have g2 : Hid (decide (ofW (ofW a) = ofW a) = true) := hide (decide_eq_true (ofW_ofW hf))
    go_wp2_with fail
    refine (check_any A7 n7 c7 (ofW a) _ r7'.out e7.out (by omega) (ofW_fit hf)).mono ?_
    rintro e w7 ⟨rfl, hE⟩
    rw [g1]
    have T7 := hE
    replace hB := hB.trans (hE.mono hB.size)
    replace T5 := T5.trans (hE.mono T5.size)
    replace hc5 := (x5.out.ext T5).cell
    replace hs5 := (x5.out.ext T5).lt
    replace hc7 := (x7.out.ext T7).cell
    replace hs7 := (x7.out.ext T7).lt
    clear hE g1
    go_wp2_with fail
    refine (same_any A7 A5 n7 c7 n5 c5 (ofW a) a _ (r7'.out.ext T7) e7.out hl7 (ofW_fit hf) (r5'.out.ext T5) e5.out (by omega) hf).mono ?_
    rintro e w8 ⟨rfl, hE⟩
    rw [g2.out]
    replace T7 := T7.trans (hE.mono T7.size)
    replace hB := hB.trans (hE.mono hB.size)
    replace T5 := T5.trans (hE.mono T5.size)
    replace hc5 := (x5.out.ext T5).cell
    replace hs5 := (x5.out.ext T5).lt
    replace hc7 := (x7.out.ext T7).cell
    replace hs7 := (x7.out.ext T7).lt
    clear hE g2
    go_wp2_with fail
    refine (count_any A5 n5 c5 a _ (r5'.out.ext T5) e5.out (by omega) hf).mono ?_
    rintro e w9 ⟨rfl, hE⟩
    rw [← e6'.out]
    replace T7 := T7.trans (hE.mono T7.size)
    replace hB := hB.trans (hE.mono hB.size)
    replace T5 := T5.trans (hE.mono T5.size)
    replace hc5 := (x5.out.ext T5).cell
    replace hs5 := (x5.out.ext T5).lt
    replace hc7 := (x7.out.ext T7).cell
    replace hs7 := (x7.out.ext T7).lt
    clear hE
    go_wp2_with fail
    refine (check_any A5 n5 c5 a _ (r5'.out.ext T5) e5.out (by omega) hf).mono ?_
    rintro e w10 ⟨rfl, hE⟩
    replace T7 := T7.trans (hE.mono T7.size)
    replace hB := hB.trans (hE.mono hB.size)
    replace T5 := T5.trans (hE.mono T5.size)
    replace hc5 := (x5.out.ext T5).cell
    replace hs5 := (x5.out.ext T5).lt
    replace hc7 := (x7.out.ext T7).cell
    replace hs7 := (x7.out.ext T7).lt
    clear hE
    rcases chkW_or a with hk | hk
    · have hsame : Hid (decide (ofW a = a) = true) := hide (decide_eq_true (by unfold ofW; rw [if_pos hk]))
      rw [hk]
      replace hk := hide hk
      go_wp2_with fail
      refine (equalW_any A7 A5 n7 c7 n5 c5 (ofW a) a _ (r7'.out.ext T7) (r5'.out.ext T5) e7.out e5.out (by omega)).mono ?_
      rintro e w11 ⟨rfl, hE⟩
      rw [hsame.out]
      replace T7 := T7.trans (hE.mono T7.size)
      go_wp2
      go_meet
      case rel => exact ⟨rfl, T7⟩
    · rw [hk]
      replace hk := hide hk
      go_wp2
      go_meet
      case rel => exact ⟨rfl, T7⟩
  case rest =>
    obtain ⟨rfl, hE⟩ := hcut
    replace hB := hB.trans (hE.mono hB.size)
    replace T5 := T5.trans (hE.mono T5.size)
    replace hc5 := (x5.out.ext T5).cell
    replace hs5 := (x5.out.ext T5).lt
    replace T6 := T6.trans (hE.mono T6.size)
    clear hE hc7 hs7 x7 r7' hl7 e7
    go_wp2_with fail
    refine (next_any A5 n5 c5 a 0 _ (r5'.out.ext T5) e5.out (by omega) hf (hL.out.ext hB)).mono ?_
    rintro e w8 ⟨rfl, hE⟩
    replace hB := hB.trans (hE.mono hB.size)
    replace T5 := T5.trans (hE.mono T5.size)
    replace hc5 := (x5.out.ext T5).cell
    replace hs5 := (x5.out.ext T5).lt
    replace T6 := T6.trans (hE.mono T6.size)
    clear hE
    obtain ⟨y0, hy0⟩ : ∃ y, y = nextN a 0 := ⟨_, rfl⟩
    have hN0 : Hid (nextB a 0 = decide (0 < m) ∧ (0 < m → ∃ z : Nat, (nums (ofW a))[0]? = some z ∧ y0 = (z : Int))) := hide (by
      by_cases h0 : 0 < m
      · obtain ⟨z, hz⟩ := get_some (xs := nums (ofW a)) (i := 0) (by rw [← e6'.out]; exact h0)
        have := next_at hf (p := 0) hz (by omega) (by simp)
        rw [hy0]
        unfold nextB nextN
        rw [this, decide_eq_true h0]
        exact ⟨rfl, fun _ => ⟨z, hz, rfl⟩⟩
      · have h00 : nums (ofW a) = [] := List.eq_nil_of_length_eq_zero (by rw [← e6'.out]; omega)
        have := next_end (a := a) (p := 0) (by rw [h00]; simp)
        unfold nextB
        rw [this, decide_eq_false h0]
        exact ⟨rfl, fun h => absurd h h0⟩)
    rw [← hy0, hN0.out.1]
    replace hy0 := hide hy0
    have T5h := hide T5
    have T6h := hide T6
    have hBh := hide hB
    go_wp2
    go_loopw [9, 10, 11] (fun o s10 s11 wr => ∃ (j : Nat) (y : Int), j ≤ m ∧ s10 = .int .i64 y ∧ s11 = .bool (decide (j < m)) ∧ Hid (j < m → ∃ z : Nat, (nums (ofW a))[j]? = some z ∧ y = (z : Int)) ∧ Hid (Own intE 3 w8.heap.size wr o (natsI ((nums (ofW a)).take j))) ∧ Ext w8 wr) (fun o _ _ _ => m - lenV o)
    case atStart => exact ⟨0, y0, Nat.zero_le _, rfl, rfl, hide hN0.out.2, hide Own.nil_, Below.refl _ _⟩
    case round =>
      obtain ⟨j, y, hj, rfl, rfl, hy, hO, hE⟩ := hrel
      clear hB T5 T6 hc5 hs5
      have hB := hBh.out.trans (hE.mono hBh.out.size)
      have T5 := T5h.out.trans (hE.mono T5h.out.size)
      have T6 := T6h.out.trans (hE.mono T6h.out.size)
      have hc5 := (x5.out.ext T5).cell
      have hs5 := (x5.out.ext T5).lt
      obtain ⟨A9, c9, rfl, r9, -, -⟩ := hO.out.rd
      have hlen : (natsI ((nums (ofW a)).take j)).length = j := by unfold natsI; rw [List.length_map, List.length_take, ← e6'.out]; omega
      replace hO := hO.out
      rw [hlen] at hO ⊢
      replace hO := hide hO
      replace r9 := hide r9
      replace hlen := hide hlen
      by_cases hlt : j < m
      · obtain ⟨z, hz, rfl⟩ := hy.out hlt
        have hzm := (mem_nums (ofW_fit hf)).1 (List.mem_of_getElem? hz)
        have hz4 := (ofW_good hf).2 z hzm
        have hhas : Hid ((mayB (z : Int) && has (ofW a) ((z : Int)).toNat) = true) := hide (by rw [mayB_in (by omega) (by omega), show ((z : Int)).toNat = z from rfl, hzm]; rfl)
        have hnj : (j : Int) ≤ (m : Int) := by omega
        have u1 : IntKind.i64.wrap ((z : Int) + 1) = (z : Int) + 1 := IntWalk.i64_in _ (by omega)
        have htk := take_snoc hz
        have hnx : Hid (nextB a ((z : Int) + 1) = decide (j + 1 < m) ∧ (j + 1 < m → ∃ y : Nat, (nums (ofW a))[j + 1]? = some y ∧ nextN a ((z : Int) + 1) = (y : Int))) := hide (by
          by_cases h0 : j + 1 < m
          · obtain ⟨y, hy⟩ := get_some (xs := nums (ofW a)) (i := j + 1) (by rw [← e6'.out]; exact h0)
            have := next_at hf (p := (z : Int) + 1) hy (next_lt hf hz hy) (take_lt hf hz)
            unfold nextB nextN
            rw [this, decide_eq_true h0]
            exact ⟨rfl, fun _ => ⟨y, hy, rfl⟩⟩
          · have h00 : (nums (ofW a)).take (j + 1) = nums (ofW a) := List.take_of_length_le (by rw [← e6'.out]; omega)
            have := next_end (a := a) (p := (z : Int) + 1) (by rw [← h00]; exact take_lt hf hz)
            unfold nextB
            rw [this, decide_eq_false h0]
            exact ⟨rfl, fun h => absurd h h0⟩)
        have hj1 : Hid (natsI ((nums (ofW a)).take (j + 1)) = natsI ((nums (ofW a)).take j) ++ [(z : Int)]) := hide (by rw [htk]; unfold natsI; rw [List.map_append]; rfl)
        replace hz := hide hz
        replace htk := hide htk
        clear hy hzm hz4
        go_wp2_with fail
        refine (has_any A5 n5 c5 a (z : Int) _ (r5'.out.ext T5) e5.out (by omega) hf).mono ?_
        rintro e w9 ⟨rfl, hE9⟩
        rw [hhas.out]
        have hsz8 := hE.size
        replace hO := hide (hO.out.ext hE9)
        replace hE := hE.trans (hE9.mono hE.size)
        clear hE9 hB T5 T6 hc5 hs5
        have hB := hBh.out.trans (hE.mono hBh.out.size)
        have T5 := T5h.out.trans (hE.mono T5h.out.size)
        have T6 := T6h.out.trans (hE.mono T6h.out.size)
        have hc5 := (x5.out.ext T5).cell
        have hs5 := (x5.out.ext T5).lt
        have hsz := hE.size
        have hon := own_new (base := 0) (e := 3) intE w9 (z : Int) w9.heap.size rfl (Nat.zero_le _)
        obtain ⟨A4, c4, hv1, hr4, -, -⟩ := hon.rd
        injection hv1 with hv2 hv3 hv4
        subst hv2
        clear hon hv3 hv4
        replace hr4 := hide hr4
        have hO1 := hide (hO.out.alloc (.cells (intE.cs (z : Int)).toArray 3))
        go_wp2_with (at_builtin; refine wpList_app tyInt rfl (.tmp 82) (.tmp 84) rfl rfl hO1.out rfl hr4.out rfl (by have := hlen.out; simp at this ⊢; omega) (by simp; omega) ?_)
        intro v' w' hown' hg hne' hnil
        have hE2 : Ext w8 w' := Own.below hO1.out (hE.alloc hsz _) hg (by simp; omega)
        have hown2 : Hid (Own intE 3 w8.heap.size w' v' (natsI ((nums (ofW a)).take (j + 1)))) := hide (by rw [hj1.out]; exact hown')
        clear hown' hne' hnil hg hO1 hr4 hB T5 T6 hc5 hs5 hO hE
        have hE := hE2
        have hB := hBh.out.trans (hE.mono hBh.out.size)
        have T5 := T5h.out.trans (hE.mono T5h.out.size)
        have T6 := T6h.out.trans (hE.mono T6h.out.size)
        have hc5 := (x5.out.ext T5).cell
        have hs5 := (x5.out.ext T5).lt
        obtain ⟨A10, c10, rfl, -, -, -⟩ := hown2.out.rd
        have hlen2 : (natsI ((nums (ofW a)).take (j + 1))).length = j + 1 := by unfold natsI; rw [List.length_map, List.length_take, ← e6'.out]; omega
        replace hown2 := hown2.out
        rw [hlen2] at hown2 ⊢
        replace hown2 := hide hown2
        go_wp2_with fail
        refine (next_any A5 n5 c5 a ((z : Int) + 1) _ (r5'.out.ext T5) e5.out (by omega) hf (hL.out.ext hB)).mono ?_
        rintro e w10 ⟨rfl, hE10⟩
        rw [hnx.out.1]
        obtain ⟨y2, hy2⟩ : ∃ y, y = nextN a ((z : Int) + 1) := ⟨_, rfl⟩
        have hnx2 : Hid (j + 1 < m → ∃ y : Nat, (nums (ofW a))[j + 1]? = some y ∧ y2 = (y : Int)) := hide (by rw [hy2]; exact hnx.out.2)
        rw [← hy2]
        replace hy2 := hide hy2
        replace hown2 := hide (hown2.out.ext hE10)
        have hE3 := hE2.trans (hE10.mono hE2.size)
        go_wp2
        refine ⟨?_, ?_⟩
        · first
            | exact ⟨j + 1, y2, by omega, rfl, rfl, hnx2, hown2, hE3⟩
            | ((repeat apply Exists.intro); exact ⟨⟨j + 1, y2, by omega, rfl, rfl, hnx2, hown2, hE3⟩, rfl⟩)
        · first | (simp [intOf, lenV]; omega) | (simp [intOf]; omega) | (simp [intOf]; done)
      · obtain rfl : j = m := by omega
        have htk : (nums (ofW a)).take j = nums (ofW a) := by rw [e6'.out, List.take_length]
        have hfin : Hid (decide (natsI ((nums (ofW a)).take j) = natsI (nums (ofW a))) = true) := hide (decide_eq_true (by rw [htk]))
        have hsorted : Hid ((natsI (nums (ofW a))).Pairwise (· < ·)) := hide (by
          unfold natsI
          rw [List.pairwise_map]
          exact (nums_sorted (ofW_fit hf)).imp (fun h => by simp; omega))
        replace htk := hide htk
        clear hy
        go_wp2_with fail
        refine (next_any A5 n5 c5 a i _ (r5'.out.ext T5) e5.out (by omega) hf (hL.out.ext hB)).mono ?_
        rintro e w9 ⟨rfl, hE9⟩
        replace hE := hE.trans (hE9.mono hE.size)
        replace r9 := hide (r9.out.ext hE9)
        clear hE9 hB T5 T6 hc5 hs5 hO
        have hB := hBh.out.trans (hE.mono hBh.out.size)
        have T5 := T5h.out.trans (hE.mono T5h.out.size)
        have T6 := T6h.out.trans (hE.mono T6h.out.size)
        have hc5 := (x5.out.ext T5).cell
        have hs5 := (x5.out.ext T5).lt
        go_wp2_with fail
        refine (equalI_any A9 A6 j c9 j c6 (natsI ((nums (ofW a)).take j)) (natsI (nums (ofW a))) _ r9.out (r6.out.ext T6) hlen.out.symm e6.out (by omega)).mono ?_
        rintro e w10 ⟨rfl, hE10⟩
        rw [hfin.out]
        replace hE := hE.trans (hE10.mono hE.size)
        clear hE10 hB T5 T6 hc5 hs5 r9
        have hB := hBh.out.trans (hE.mono hBh.out.size)
        have T5 := T5h.out.trans (hE.mono T5h.out.size)
        have T6 := T6h.out.trans (hE.mono T6h.out.size)
        have hc5 := (x5.out.ext T5).cell
        have hs5 := (x5.out.ext T5).lt
        go_wp2_with fail
        refine (sorted_any A6 j c6 (natsI (nums (ofW a))) _ (r6.out.ext T6) e6.out (by omega) hsorted.out).mono ?_
        rintro e w11 ⟨rfl, hE11⟩
        replace hE := hE.trans (hE11.mono hE.size)
        clear hE11 hB T5 T6 hc5 hs5
        have hB := hBh.out.trans (hE.mono hBh.out.size)
        have T5 := T5h.out.trans (hE.mono T5h.out.size)
        have T6 := T6h.out.trans (hE.mono T6h.out.size)
        have hc5 := (x5.out.ext T5).cell
        have hs5 := (x5.out.ext T5).lt
        cases hnx : nextW a i with
        | none =>
          have hv : nextB a i = false := by unfold nextB; rw [hnx]; rfl
          rw [hv]
          replace hnx := hide hnx
          go_wp2
          go_ret
          exact ⟨rfl, hB⟩
        | some x =>
          obtain ⟨hx1, hx2⟩ := next_of hnx
          have hv : nextB a i = true := by unfold nextB; rw [hnx]; rfl
          have hv2 : nextN a i = (x : Int) := by unfold nextN; rw [hnx]; rfl
          have hxm := (mem_nums (ofW_fit hf)).1 hx1
          have hx4 := (ofW_good hf).2 x hxm
          have hhas : Hid ((mayB (x : Int) && has (ofW a) ((x : Int)).toNat) = true) := hide (by rw [mayB_in (by omega) (by omega), show ((x : Int)).toNat = x from rfl, hxm]; rfl)
          rw [hv, hv2]
          replace hnx := hide hnx
          clear hx1 hxm
          go_wp2_with fail
          refine (has_any A5 n5 c5 a (x : Int) _ (r5'.out.ext T5) e5.out (by omega) hf).mono ?_
          rintro e w12 ⟨rfl, hE12⟩
          rw [hhas.out]
          replace hB := hB.trans (hE12.mono hB.size)
          go_wp2
          go_ret
          exact ⟨rfl, hB⟩
end Go.Proofs.YtkiklbngfocljaaDoor
