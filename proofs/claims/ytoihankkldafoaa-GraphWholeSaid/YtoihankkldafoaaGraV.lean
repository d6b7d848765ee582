/- GraphWhole: the walk. -/
import Derived.Test.YtoihankkldafoaaGraZ
namespace Go.Proofs.Ytoihankkldafoaa
open Go.RowKit

theorem lrow3 (w : World) (A1 A2 A3 : Option Addr) (n1 c1 n2 c2 n3 c3 : Nat) (xs ys zs : List (Int × Int × Int)) (h1 : Rd edgeE w.heap.size w A1 xs) (hn1 : n1 = xs.length) (hl1 : xs.length ≤ 20000) (h2 : Rd edgeE w.heap.size w A2 ys) (hn2 : n2 = ys.length) (hl2 : ys.length ≤ 20000) (h3 : Rd edgeE w.heap.size w A3 zs) (hn3 : n3 = zs.length) (hl3 : zs.length ≤ 20000) :
    LRow (w.alloc (.cells #[.slice A1 n1 c1, .slice A2 n2 c2, .slice A3 n3 c3] 22)) (some ⟨w.heap.size, 0, none⟩) [((A1, n1, c1), xs), ((A2, n2, c2), ys), ((A3, n3, c3), zs)] := by
  have hE : Ext w (w.alloc (.cells #[.slice A1 n1 c1, .slice A2 n2 c2, .slice A3 n3 c3] 22)) := (Below.refl _ _).alloc (Nat.le_refl _) _
  refine ⟨.inr ⟨w.heap.size, 0, rfl, by simp, fun i s hs => ?_⟩, fun s hs => ?_⟩
  · have hB := BoxN.new w 22 #[.slice A1 n1 c1, .slice A2 n2 c2, .slice A3 n3 c3]
    match i, hs with
    | 0, hs => simp at hs; subst hs; exact hB.cell 0 rfl
    | 1, hs => simp at hs; subst hs; exact hB.cell 1 rfl
    | 2, hs => simp at hs; subst hs; exact hB.cell 2 rfl
  · simp only [List.mem_cons, List.not_mem_nil, or_false] at hs
    rcases hs with rfl | rfl | rfl
    · exact ⟨h1.ext hE, hn1, hl1⟩
    · exact ⟨h2.ext hE, hn2, hl2⟩
    · exact ⟨h3.ext hE, hn3, hl3⟩
theorem whole_mem (a : List (Int × Int × Int)) (k : Nat) (z : Int × Int × Int) : z ∈ a.drop k ++ (a.take k ++ a.take 1) ↔ z ∈ a := by
  rw [List.mem_append, List.mem_append]
  constructor
  · rintro (h | h | h)
    · exact List.mem_of_mem_drop h
    · exact List.mem_of_mem_take h
    · exact List.mem_of_mem_take h
  · intro h
    rw [← List.take_append_drop k a, List.mem_append] at h
    rcases h with h | h
    · exact .inr (.inl h)
    · exact .inl h
theorem turn_at (t : Int) {n : Nat} (h : 0 < n) (hn : n ≤ 1000000) : ∃ K : Nat, K < n ∧ wrap64 ((IntKind.u64.wrap t).tmod (n : Int)) = (K : Int) := by
  have hu : 0 ≤ IntKind.u64.wrap t := by
    simp only [IntKind.wrap]
    first | omega | exact Int.emod_nonneg _ (by decide)
  have h1 := Int.tmod_nonneg (n : Int) hu
  have h2 := Int.tmod_lt_of_pos (IntKind.u64.wrap t) (show (0 : Int) < (n : Int) by omega)
  refine ⟨((IntKind.u64.wrap t).tmod (n : Int)).toNat, by omega, ?_⟩
  rw [Int.toNat_of_nonneg h1]
  unfold wrap64
  omega
theorem cntB_all {n : Nat} {a : List (Int × Int × Int)} (h : rightG n a = true) : cntB a n = a.length := by
  obtain ⟨-, -, -, h4, -⟩ := (rightG_iff _ a).1 h
  unfold cntB
  rw [List.countP_eq_length]
  intro x hx
  have := (rightE_iff _ x).1 (h4 x hx)
  simp
  omega
theorem starts_get {a : List (Int × Int × Int)} {N v : Nat} (h : v < N) : (starts a N)[v]? = some (cntB a v : Int) := by rw [starts_rowF, rowF_get h]
theorem out_between {a : List (Int × Int × Int)} (h : Strict a) (v : Nat) : (a.drop (cntB a v)).take (cntB a (v + 1) - cntB a v) = a.filter fun x => decide (x.1 = (v : Int)) := by
  have := out_part h (v : Int)
  rw [show cntI a (v : Int) = cntB a v from rfl, show cntI a ((v : Int) + 1) = cntB a (v + 1) from rfl] at this
  exact this
theorem cntB_mono (a : List (Int × Int × Int)) (v : Nat) : cntB a v ≤ cntB a (v + 1) := cntI_mono a (show (v : Int) ≤ ((v + 1 : Nat) : Int) by omega)
set_option maxRecDepth 100000 in
set_option maxHeartbeats 8000000 in
theorem graphWhole_any (n turn_ : Int) (A : Option Addr) (m c : Nat) (xs : List (Int × Int × Int)) (w : World) (hm : m = xs.length) (hmc : m ≤ c) (h : Rd edgeE w.heap.size w A xs) :
    Calls Try.prog 7 #[.agg #[.int .i64 n, .slice A m c], .int .i64 turn_] w fun e w' => e = .returned (.bool true) ∧ Ext w w' := by
  replace h := hide h
  replace hm := hide hm
  go_enter Try.func7, Try.ntmps7
  go_upto_region 1 with fail
  obtain ⟨w0, hw0⟩ : ∃ w0, w0 = w.alloc (.cells #[.int .i64 n, .slice A m c] 24) := ⟨_, rfl⟩
  rw [← hw0]
  have T : Ext w w0 := by rw [hw0]; exact (Below.refl _ _).alloc (Nat.le_refl _) _
  have X2 : Hid (BoxG w0 w.heap.size n A m c) := hide (by rw [hw0]; exact BoxN.new w _ _)
  clear hw0
  obtain ⟨p2, hp⟩ : ∃ q, q = w.heap.size := ⟨_, rfl⟩
  rw [← hp] at X2 ⊢
  clear hp
  go_wp2_with fail
  refine (wakes_any _).mono ?_
  rintro e w1 ⟨rfl, hE⟩
  replace T := T.trans (hE.mono T.size)
  replace X2 := hide (X2.out.ext hE)
  clear hE
  have k20 := X2.out.cell 0 (v := .int .i64 n) rfl
  have k21 := X2.out.cell 1 rfl
  have s2 := X2.out.lt
  have hla : (xs.take 80).length ≤ 80 := by rw [List.length_take]; omega
  obtain ⟨a, ha⟩ : ∃ a, a = xs.take 80 := ⟨_, rfl⟩
  rw [← ha] at hla
  replace ha := hide ha
  go_wp2_with fail
  refine (fair_any n A m c xs _ (h.out.ext T) hm.out hmc).mono ?_
  rintro e w2 ⟨v, rfl, hO, hE⟩
  rw [← ha.out] at hO
  replace T := T.trans (hE.mono T.size)
  replace X2 := hide (X2.out.ext hE)
  clear hE
  clear k20 k21 s2
  obtain ⟨A5, c5, rfl, r5, hcc5, -⟩ := hO.rd
  obtain ⟨n5, e5⟩ : ∃ q, q = List.length a := ⟨_, rfl⟩
  rw [← e5] at hcc5 ⊢
  replace r5 := hide r5
  replace e5 := hide e5
  clear hO
  have hl5 : n5 ≤ 80 := by have := e5.out; omega
  have hl5b : n5 ≤ 1000000 := by omega
  go_upto_region 4 with fail
  obtain ⟨w4, hw⟩ : ∃ q, q = World.alloc w2 (.cells #[.int .i64 n, .slice A5 n5 c5] 24) := ⟨_, rfl⟩
  rw [← hw]
  have hE : Ext w2 w4 := by rw [hw]; exact (Below.refl _ _).alloc (Nat.le_refl _) _
  have X5 : Hid (BoxG w4 (World.heap w2).size n A5 n5 c5) := hide (by rw [hw]; exact BoxN.new _ _ _)
  clear hw
  obtain ⟨p5, hp⟩ : ∃ q, q = (World.heap w2).size := ⟨_, rfl⟩
  rw [← hp] at X5 ⊢
  clear hp
  replace r5 := hide (r5.out.ext hE)
  have hB := hide (T.trans (hE.mono T.size))
  clear hE T X2
  have T : Ext w4 w4 := Below.refl _ _
  have k50 := (X5.out.ext T).cell 0 (v := .int .i64 n) rfl
  have k51 := (X5.out.ext T).cell 1 rfl
  have s5 := (X5.out.ext T).lt
  go_wp2_with fail
  refine (check_any n A5 n5 c5 a _ (r5.out.ext T) e5.out hl5b).mono ?_
  rintro e w5 ⟨rfl, hE⟩
  replace T := T.trans (hE.mono T.size)
  clear hE
  clear k50 k51 s5
  cases hr : rightG n a with
  | false =>
    rw [chkG_no hr]
    replace hr := hide hr
    go_wp2
    go_ret
    exact ⟨rfl, hB.out.trans (T.mono hB.out.size)⟩
  | true =>
    rw [chkG_yes hr]
    obtain ⟨g1, g2, -, -, g5⟩ := (rightG_iff n a).1 hr
    have hch := hide (chkG_yes hr)
    obtain ⟨nn, hnn⟩ : ∃ nn : Nat, n = nn := ⟨n.toNat, by omega⟩
    subst hnn
    replace hr := hide hr
    replace g5 := hide g5
    have k50 := (X5.out.ext T).cell 0 (v := .int .i64 (nn : Int)) rfl
    have k51 := (X5.out.ext T).cell 1 rfl
    have s5 := (X5.out.ext T).lt
    go_wp2_with fail
    refine (clone_Edge A5 n5 c5 a _ e5.out (r5.out.ext T) hl5b).mono ?_
    rintro e w6 ⟨v, rfl, hO, hE⟩
    replace T := T.trans (hE.mono T.size)
    clear hE
    clear k50 k51 s5
    obtain ⟨A6, c6, rfl, r6, hcc6, -⟩ := hO.rd
    obtain ⟨n6, e6⟩ : ∃ q, q = List.length a := ⟨_, rfl⟩
    rw [← e6] at hcc6 ⊢
    replace r6 := hide r6
    replace e6 := hide e6
    clear hO
    have hn65 : n6 = n5 := by rw [e6.out, e5.out]
    subst hn65
    by_cases h0 : n6 = 0
    · subst h0
      have m1 : Hid (∀ z, z ∈ a ↔ z ∈ a) := hide (fun z => Iff.rfl)
      have hok := hide (part_ok hr.out (fun x hx => (m1.out x).1 hx))
      obtain ⟨o1, o2, o3⟩ := of_yes hok.out
      rw [part_of g5.out m1.out] at o3
      replace o1 := hide o1
      replace o2 := hide o2
      replace o3 := hide o3
      have k50 := (X5.out.ext T).cell 0 (v := .int .i64 (nn : Int)) rfl
      have k51 := (X5.out.ext T).cell 1 rfl
      have s5 := (X5.out.ext T).lt
      go_wp2_with fail
      refine (Of_any nn A6 0 c6 a _ r6.out e6.out hcc6 (by omega)).mono ?_
      rintro e w10 ⟨v, rfl, hO, hE⟩
      rw [o3.out] at hO
      rw [o1.out, o2.out]
      replace T := T.trans (hE.mono T.size)
      clear hE
      clear k50 k51 s5
      obtain ⟨A8, c8, rfl, r8, hcc8, -⟩ := hO.rd
      obtain ⟨n8, e8⟩ : ∃ q, q = List.length a := ⟨_, rfl⟩
      rw [← e8] at hcc8 ⊢
      replace r8 := hide r8
      replace e8 := hide e8
      clear hO
      go_upto_region 11 with fail
      obtain ⟨w11, hw⟩ : ∃ q, q = World.alloc w10 (.cells #[.int .i64 (nn : Int), .slice A8 n8 c8] 24) := ⟨_, rfl⟩
      rw [← hw]
      have hE : Ext w10 w11 := by rw [hw]; exact (Below.refl _ _).alloc (Nat.le_refl _) _
      have X8 : Hid (BoxG w11 (World.heap w10).size (nn : Int) A8 n8 c8) := hide (by rw [hw]; exact BoxN.new _ _ _)
      clear hw
      obtain ⟨p8, hp⟩ : ∃ q, q = (World.heap w10).size := ⟨_, rfl⟩
      rw [← hp] at X8 ⊢
      clear hp
      replace r8 := hide (r8.out.ext hE)
      replace T := T.trans (hE.mono T.size)
      clear hE
      have k50 := (X5.out.ext T).cell 0 (v := .int .i64 (nn : Int)) rfl
      have k51 := (X5.out.ext T).cell 1 rfl
      have s5 := (X5.out.ext T).lt
      have hst : startL (nn : Int) a = starts a (nn + 1) := by unfold startL; rw [if_pos hr.out]; simp
      replace hst := hide hst
      go_wp2_with fail
      refine (starts_any nn A5 0 c5 a _ (r5.out.ext T) e5.out hl5b).mono ?_
      rintro e w12 ⟨v, rfl, hO, hE⟩
      rw [hst.out] at hO
      rw [hch.out]
      replace r8 := hide (r8.out.ext hE)
      replace X8 := hide (X8.out.ext hE)
      replace T := T.trans (hE.mono T.size)
      clear hE
      clear k50 k51 s5
      obtain ⟨A10, c10, rfl, r10, hcc10, -⟩ := hO.rd
      rw [starts_len] at hcc10 ⊢
      replace r10 := hide r10
      clear hO
      have gall := cntB_all hr.out
      have hlast : (starts a (nn + 1))[nn]? = some ((0 : Nat) : Int) := by rw [starts_get (by omega), gall, ← e5.out]
      replace gall := hide gall
      obtain ⟨b10, o10, rfl, ra⟩ := r10.out.at_ (i := nn) (by rw [starts_len]; omega)
      have hcl := ra.int hlast
      have hb10 := ra.1
      replace ra := hide ra
      replace hlast := hide hlast
      have j1 : (nn : Int) < (nn : Int) + 1 := by omega
      have j2 : (0 : Int) ≤ (nn : Int) := by omega
      have j3 : IntKind.i64.wrap ((nn : Int) + 1) = (nn : Int) + 1 := IntWalk.i64_in _ (by omega)
      have k50 := (X5.out.ext T).cell 0 (v := .int .i64 (nn : Int)) rfl
      have k51 := (X5.out.ext T).cell 1 rfl
      have s5 := (X5.out.ext T).lt
      have k80 := X8.out.cell 0 (v := .int .i64 (nn : Int)) rfl
      have k81 := X8.out.cell 1 rfl
      have s8 := X8.out.lt
      have T12 := hide T
      have Q5 := hide (r5.out.ext T)
      clear T
      go_upto_region 12 with fail
      have T : Ext w12 w12.drew := (Below.refl _ _).drew
      refine wp_region_mix (fun W => Below w12.heap.size w12 W) [(0, true), (1, true), (2, true), (3, true), (4, true), (5, true), (6, true), (7, true), (8, true), (9, false), (10, true), (11, true), (12, true), (13, true), (14, true), (15, true), (16, true), (17, true), (18, true), (19, true), (20, true), (21, true), (22, true), (23, true), (24, true), (25, true), (26, true), (27, true), (28, true), (29, true), (30, true)] (by kernel_rfl) (by kernel_rfl) (by kernel_rfl) (by kernel_rfl) (fun _ _ d _ _ h => by cases d <;> exact h) ?_ ?_
      · exact T
      obtain ⟨wl, hwh⟩ : ∃ x, x = w12.drew := ⟨_, rfl⟩
      rw [← hwh] at T ⊢
      clear hwh
      iterate 3
        apply mix_q rfl rfl
        · intro W hW
          have hcW := (bcell hW).1
          go_simp
          try exact rfl
        simp only [Act.put, List.setIfInBounds_toArray, List.set_cons_zero, List.set_cons_succ]
      iterate 2
        apply mix_on rfl (wanted_is rfl rfl rfl rfl rfl)
        · intro W hW
          have hcW := (bcell hW).1
          go_simp
          try exact rfl
        simp only [Act.put, List.setIfInBounds_toArray, List.set_cons_zero, List.set_cons_succ]
      iterate 2
        apply mix_q rfl rfl
        · intro W hW
          have hcW := (bcell hW).1
          go_simp
          try exact rfl
        simp only [Act.put, List.setIfInBounds_toArray, List.set_cons_zero, List.set_cons_succ]
      iterate 2
        apply mix_on rfl (wanted_is rfl rfl rfl rfl rfl)
        · intro W hW
          have hcW := (bcell hW).1
          go_simp
          try exact rfl
        simp only [Act.put, List.setIfInBounds_toArray, List.set_cons_zero, List.set_cons_succ]
      refine mix_won rfl (wanted_is rfl rfl rfl rfl rfl) (fun K hK => ?_)
      go_simp
      refine (same_any nn nn A8 A5 n8 c8 0 c5 a a _ (r8.out.ext T) e8.out (Q5.out.ext T) e5.out (by have := e8.out; omega)).mono ?_
      rintro e w13 ⟨rfl, hE⟩
      refine hK _ _ (T.trans (hE.mono T.size)) ?_
      clear hK K
      try simp only [Act.put, List.setIfInBounds_toArray, List.set_cons_zero, List.set_cons_succ]
      replace T := T.trans (hE.mono T.size)
      rw [sameG_self]
      clear hE
      iterate 1
        apply mix_on rfl (wanted_is rfl rfl rfl rfl rfl)
        · intro W hW
          have hcW := (bcell hW).1
          go_simp
          try exact rfl
        simp only [Act.put, List.setIfInBounds_toArray, List.set_cons_zero, List.set_cons_succ]
      iterate 2
        apply mix_q rfl rfl
        · intro W hW
          have hcW := (bcell hW).1
          go_simp
          try exact rfl
        simp only [Act.put, List.setIfInBounds_toArray, List.set_cons_zero, List.set_cons_succ]
      iterate 6
        apply mix_on rfl (wanted_is rfl rfl rfl rfl rfl)
        · intro W hW
          have hcW := (bcell hW).1
          go_simp
          try exact rfl
        simp only [Act.put, List.setIfInBounds_toArray, List.set_cons_zero, List.set_cons_succ]
      iterate 2
        apply mix_q rfl rfl
        · intro W hW
          have hcW := (bcell hW).1
          go_simp
          try exact rfl
        simp only [Act.put, List.setIfInBounds_toArray, List.set_cons_zero, List.set_cons_succ]
      iterate 9
        apply mix_on rfl (wanted_is rfl rfl rfl rfl rfl)
        · intro W hW
          have hcW := (bcell hW).1
          go_simp
          try exact rfl
        simp only [Act.put, List.setIfInBounds_toArray, List.set_cons_zero, List.set_cons_succ]
      iterate 1
        apply mix_q rfl rfl
        · intro W hW
          have hcW := (bcell hW).1
          go_simp
          try exact rfl
        simp only [Act.put, List.setIfInBounds_toArray, List.set_cons_zero, List.set_cons_succ]
      refine mix_nil ?_
      clear k50 k51 s5 k80 k81 s8 hcl hb10 X8 r8 e8 hcc8
      have HWT := T
      replace T := T12.out.trans (T.mono T12.out.size)
      have hr10 : Hid (∀ W, Ext w12 W → Rd intE W.heap.size W (some ⟨b10, o10, none⟩) (starts a (nn + 1))) := hide (fun W hW => r10.out.ext hW)
      have k50 := (X5.out.ext T).cell 0 (v := .int .i64 (nn : Int)) rfl
      have k51 := (X5.out.ext T).cell 1 rfl
      have s5 := (X5.out.ext T).lt
      have T13 := hide T
      have HW := hide HWT
      by_cases h20 : (20 : Int) < (nn : Int)
      · have hk20n : 20 ≤ nn := by omega
        go_wp2
        go_loopw [91] (fun i wr => ∃ k : Nat, k ≤ 20 ∧ i = .int .i64 k ∧ Ext w13 wr) (fun i _ => 20 - (intOf i).toNat)
        case atStart => exact ⟨0, Nat.zero_le _, rfl, Below.refl _ _⟩
        case round =>
          clear T k50 k51 s5
          obtain ⟨k, hk, rfl, TW⟩ := hrel
          have T := T13.out.trans (TW.mono T13.out.size)
          by_cases hlt : k < 20
          · have hlt' : (k : Int) < (20 : Int) := by omega
            have q1 := ask1 hr.out (v := (k : Int)) ⟨by omega, by omega⟩
            have ho : outL nn a k = a.filter fun x => decide (x.1 = (k : Int)) := by unfold outL; rw [if_pos q1]
            obtain ⟨o, ho2⟩ : ∃ o, o = a.filter fun x => decide (x.1 = (k : Int)) := ⟨_, rfl⟩
            rw [← ho2] at ho
            have hbt := out_between g5.out k
            rw [← ho2] at hbt
            have hol : o.length ≤ 80 := by rw [ho2]; exact Nat.le_trans (List.length_filter_le _ _) hla
            clear ho2
            have d1 := cntB_mono a k
            have d2 := cntB_le a (k + 1)
            rw [← e5.out] at d2
            have c1 := starts_get (a := a) (N := nn + 1) (v := k) (by omega)
            have c2 := starts_get (a := a) (N := nn + 1) (v := k + 1) (by omega)
            obtain ⟨i, hi⟩ : ∃ i, i = cntB a k := ⟨_, rfl⟩
            obtain ⟨j, hj⟩ : ∃ j, j = cntB a (k + 1) := ⟨_, rfl⟩
            rw [← hi] at d1 c1 hbt
            rw [← hj] at d1 d2 c2 hbt
            have hlen : o.length = j - i := by rw [← hbt, List.length_take, List.length_drop, ← e5.out]; omega
            clear hi hj
            replace q1 := hide q1
            replace ho := hide ho
            replace hbt := hide hbt
            replace hlen := hide hlen
            replace c1 := hide c1
            replace c2 := hide c2
            have k50 := (X5.out.ext T).cell 0 (v := .int .i64 (nn : Int)) rfl
            have k51 := (X5.out.ext T).cell 1 rfl
            have s5 := (X5.out.ext T).lt
            go_wp2_with fail
            refine (out_any nn k A5 0 c5 a _ (r5.out.ext T) e5.out hcc5 hl5b).mono ?_
            rintro e w14 ⟨v, rfl, hO, hE⟩
            rw [ho.out] at hO
            rw [q1.out]
            replace T := T.trans (hE.mono T.size)
            replace TW := TW.trans (hE.mono TW.size)
            clear hE
            clear k50 k51 s5
            obtain ⟨A13, c13, rfl, r13, hcc13, -⟩ := hO.rd
            obtain ⟨n13, e13⟩ : ∃ q, q = List.length o := ⟨_, rfl⟩
            rw [← e13] at hcc13 ⊢
            replace r13 := hide r13
            replace e13 := hide e13
            clear hO
            have rs := hr10.out w14 (HW.out.trans (TW.mono HW.out.size))
            obtain ⟨b, o2, hbo, ra⟩ := rs.at_ (i := k) (by rw [starts_len]; omega)
            injection hbo with hbo
            injection hbo with hb_ ho_
            subst hb_ ho_
            have v1 := ra.int c1.out
            have v2 := ra.int c2.out
            have vb := ra.1
            replace ra := hide ra
            clear rs
            have f1 : (k : Int) < (nn : Int) + 1 := by omega
            have f2 : (k : Int) + 1 < (nn : Int) + 1 := by omega
            have f3 : IntKind.i64.wrap ((k : Int) + 1) = (k : Int) + 1 := IntWalk.i64_in _ (by omega)
            have f4 : ((k : Int) + 1).toNat = k + 1 := by omega
            have f5 : (0 : Int) ≤ (k : Int) + 1 := by omega
            have f6 : (i : Int) ≤ (j : Int) := by omega
            have f7 : (j : Int) ≤ (c5 : Int) := by omega
            have f8 : (j : Int) - (i : Int) = ((j - i : Nat) : Int) := by omega
            have k50 := (X5.out.ext T).cell 0 (v := .int .i64 (nn : Int)) rfl
            have k51 := (X5.out.ext T).cell 1 rfl
            have s5 := (X5.out.ext T).lt
            have Q5b := ((r5.out.ext T).cut (k := i) (c := c5) (by rw [← e5.out]; exact hcc5)).take (j - i)
            rw [hbt.out] at Q5b
            replace Q5b := hide Q5b
            have T14 := hide T
            have TW14 := hide TW
            clear T TW
            go_upto_region 18 with fail
            have T : Ext w14 w14.drew := (Below.refl _ _).drew
            refine wp_region_mix (fun W => Below w14.heap.size w14 W) [(0, true), (1, true), (2, true), (3, true), (4, true), (5, true), (6, true), (7, true), (8, true), (9, true), (10, true), (11, true), (12, true), (13, true), (14, true), (15, true), (16, false), (17, true), (18, true)] (by kernel_rfl) (by kernel_rfl) (by kernel_rfl) (by kernel_rfl) (fun _ _ d _ _ h => by cases d <;> exact h) ?_ ?_
            · exact T
            obtain ⟨wl, hwh⟩ : ∃ x, x = w14.drew := ⟨_, rfl⟩
            rw [← hwh] at T ⊢
            clear hwh
            iterate 3
              apply mix_q rfl rfl
              · intro W hW
                have hcW := (bcell hW).1
                go_simp
                try exact rfl
              simp only [Act.put, List.setIfInBounds_toArray, List.set_cons_zero, List.set_cons_succ]
            iterate 13
              apply mix_on rfl (wanted_is rfl rfl rfl rfl rfl)
              · intro W hW
                have hcW := (bcell hW).1
                go_simp
                try exact rfl
              simp only [Act.put, List.setIfInBounds_toArray, List.set_cons_zero, List.set_cons_succ]
            refine mix_won rfl (wanted_is rfl rfl rfl rfl rfl) (fun K hK => ?_)
            go_simp
            refine (equal_Edge A13 _ n13 c13 _ _ o o _ e13.out (r13.out.ext T) hlen.out.symm (Q5b.out.ext T) (by have := e13.out; omega)).mono ?_
            rintro e w15 ⟨rfl, hE⟩
            refine hK _ _ (T.trans (hE.mono T.size)) ?_
            clear hK K
            try simp only [Act.put, List.setIfInBounds_toArray, List.set_cons_zero, List.set_cons_succ]
            replace T := T.trans (hE.mono T.size)
            try rw [show decide (o = o) = true from decide_eq_true rfl]
            clear hE
            iterate 1
              apply mix_on rfl (wanted_is rfl rfl rfl rfl rfl)
              · intro W hW
                have hcW := (bcell hW).1
                go_simp
                try exact rfl
              simp only [Act.put, List.setIfInBounds_toArray, List.set_cons_zero, List.set_cons_succ]
            iterate 1
              apply mix_q rfl rfl
              · intro W hW
                have hcW := (bcell hW).1
                go_simp
                try exact rfl
              simp only [Act.put, List.setIfInBounds_toArray, List.set_cons_zero, List.set_cons_succ]
            refine mix_nil ?_
            have TE := TW14.out.trans (T.mono TW14.out.size)
            clear T k50 k51 s5 v1 v2 vb
            go_wp2
            refine ⟨?_, ?_⟩
            · first
                | exact ⟨k + 1, by omega, by go_num, TE⟩
                | ((repeat apply Exists.intro); exact ⟨⟨k + 1, by omega, by go_num, TE⟩, rfl⟩)
            · first | (simp [intOf, lenV]; omega) | (simp [intOf]; omega) | (simp [intOf]; done)
          · have hlt' : ¬ (k : Int) < (20 : Int) := by omega
            go_wp2
            go_ret
            exact ⟨rfl, hB.out.trans (T.mono hB.out.size)⟩
      · go_wp2
        go_loopw [91] (fun i wr => ∃ k : Nat, k ≤ nn ∧ i = .int .i64 k ∧ Ext w13 wr) (fun i _ => nn - (intOf i).toNat)
        case atStart => exact ⟨0, Nat.zero_le _, rfl, Below.refl _ _⟩
        case round =>
          clear T k50 k51 s5
          obtain ⟨k, hk, rfl, TW⟩ := hrel
          have T := T13.out.trans (TW.mono T13.out.size)
          by_cases hlt : k < nn
          · have hlt' : (k : Int) < (nn : Int) := by omega
            have q1 := ask1 hr.out (v := (k : Int)) ⟨by omega, by omega⟩
            have ho : outL nn a k = a.filter fun x => decide (x.1 = (k : Int)) := by unfold outL; rw [if_pos q1]
            obtain ⟨o, ho2⟩ : ∃ o, o = a.filter fun x => decide (x.1 = (k : Int)) := ⟨_, rfl⟩
            rw [← ho2] at ho
            have hbt := out_between g5.out k
            rw [← ho2] at hbt
            have hol : o.length ≤ 80 := by rw [ho2]; exact Nat.le_trans (List.length_filter_le _ _) hla
            clear ho2
            have d1 := cntB_mono a k
            have d2 := cntB_le a (k + 1)
            rw [← e5.out] at d2
            have c1 := starts_get (a := a) (N := nn + 1) (v := k) (by omega)
            have c2 := starts_get (a := a) (N := nn + 1) (v := k + 1) (by omega)
            obtain ⟨i, hi⟩ : ∃ i, i = cntB a k := ⟨_, rfl⟩
            obtain ⟨j, hj⟩ : ∃ j, j = cntB a (k + 1) := ⟨_, rfl⟩
            rw [← hi] at d1 c1 hbt
            rw [← hj] at d1 d2 c2 hbt
            have hlen : o.length = j - i := by rw [← hbt, List.length_take, List.length_drop, ← e5.out]; omega
            clear hi hj
            replace q1 := hide q1
            replace ho := hide ho
            replace hbt := hide hbt
            replace hlen := hide hlen
            replace c1 := hide c1
            replace c2 := hide c2
            have k50 := (X5.out.ext T).cell 0 (v := .int .i64 (nn : Int)) rfl
            have k51 := (X5.out.ext T).cell 1 rfl
            have s5 := (X5.out.ext T).lt
            go_wp2_with fail
            refine (out_any nn k A5 0 c5 a _ (r5.out.ext T) e5.out hcc5 hl5b).mono ?_
            rintro e w14 ⟨v, rfl, hO, hE⟩
            rw [ho.out] at hO
            rw [q1.out]
            replace T := T.trans (hE.mono T.size)
            replace TW := TW.trans (hE.mono TW.size)
            clear hE
            clear k50 k51 s5
            obtain ⟨A13, c13, rfl, r13, hcc13, -⟩ := hO.rd
            obtain ⟨n13, e13⟩ : ∃ q, q = List.length o := ⟨_, rfl⟩
            rw [← e13] at hcc13 ⊢
            replace r13 := hide r13
            replace e13 := hide e13
            clear hO
            have rs := hr10.out w14 (HW.out.trans (TW.mono HW.out.size))
            obtain ⟨b, o2, hbo, ra⟩ := rs.at_ (i := k) (by rw [starts_len]; omega)
            injection hbo with hbo
            injection hbo with hb_ ho_
            subst hb_ ho_
            have v1 := ra.int c1.out
            have v2 := ra.int c2.out
            have vb := ra.1
            replace ra := hide ra
            clear rs
            have f1 : (k : Int) < (nn : Int) + 1 := by omega
            have f2 : (k : Int) + 1 < (nn : Int) + 1 := by omega
            have f3 : IntKind.i64.wrap ((k : Int) + 1) = (k : Int) + 1 := IntWalk.i64_in _ (by omega)
            have f4 : ((k : Int) + 1).toNat = k + 1 := by omega
            have f5 : (0 : Int) ≤ (k : Int) + 1 := by omega
            have f6 : (i : Int) ≤ (j : Int) := by omega
            have f7 : (j : Int) ≤ (c5 : Int) := by omega
            have f8 : (j : Int) - (i : Int) = ((j - i : Nat) : Int) := by omega
            have k50 := (X5.out.ext T).cell 0 (v := .int .i64 (nn : Int)) rfl
            have k51 := (X5.out.ext T).cell 1 rfl
            have s5 := (X5.out.ext T).lt
            have Q5b := ((r5.out.ext T).cut (k := i) (c := c5) (by rw [← e5.out]; exact hcc5)).take (j - i)
            rw [hbt.out] at Q5b
            replace Q5b := hide Q5b
            have T14 := hide T
            have TW14 := hide TW
            clear T TW
            go_upto_region 18 with fail
            have T : Ext w14 w14.drew := (Below.refl _ _).drew
            refine wp_region_mix (fun W => Below w14.heap.size w14 W) [(0, true), (1, true), (2, true), (3, true), (4, true), (5, true), (6, true), (7, true), (8, true), (9, true), (10, true), (11, true), (12, true), (13, true), (14, true), (15, true), (16, false), (17, true), (18, true)] (by kernel_rfl) (by kernel_rfl) (by kernel_rfl) (by kernel_rfl) (fun _ _ d _ _ h => by cases d <;> exact h) ?_ ?_
            · exact T
            obtain ⟨wl, hwh⟩ : ∃ x, x = w14.drew := ⟨_, rfl⟩
            rw [← hwh] at T ⊢
            clear hwh
            iterate 3
              apply mix_q rfl rfl
              · intro W hW
                have hcW := (bcell hW).1
                go_simp
                try exact rfl
              simp only [Act.put, List.setIfInBounds_toArray, List.set_cons_zero, List.set_cons_succ]
            iterate 13
              apply mix_on rfl (wanted_is rfl rfl rfl rfl rfl)
              · intro W hW
                have hcW := (bcell hW).1
                go_simp
                try exact rfl
              simp only [Act.put, List.setIfInBounds_toArray, List.set_cons_zero, List.set_cons_succ]
            refine mix_won rfl (wanted_is rfl rfl rfl rfl rfl) (fun K hK => ?_)
            go_simp
            refine (equal_Edge A13 _ n13 c13 _ _ o o _ e13.out (r13.out.ext T) hlen.out.symm (Q5b.out.ext T) (by have := e13.out; omega)).mono ?_
            rintro e w15 ⟨rfl, hE⟩
            refine hK _ _ (T.trans (hE.mono T.size)) ?_
            clear hK K
            try simp only [Act.put, List.setIfInBounds_toArray, List.set_cons_zero, List.set_cons_succ]
            replace T := T.trans (hE.mono T.size)
            try rw [show decide (o = o) = true from decide_eq_true rfl]
            clear hE
            iterate 1
              apply mix_on rfl (wanted_is rfl rfl rfl rfl rfl)
              · intro W hW
                have hcW := (bcell hW).1
                go_simp
                try exact rfl
              simp only [Act.put, List.setIfInBounds_toArray, List.set_cons_zero, List.set_cons_succ]
            iterate 1
              apply mix_q rfl rfl
              · intro W hW
                have hcW := (bcell hW).1
                go_simp
                try exact rfl
              simp only [Act.put, List.setIfInBounds_toArray, List.set_cons_zero, List.set_cons_succ]
            refine mix_nil ?_
            have TE := TW14.out.trans (T.mono TW14.out.size)
            clear T k50 k51 s5 v1 v2 vb
            go_wp2
            refine ⟨?_, ?_⟩
            · first
                | exact ⟨k + 1, by omega, by go_num, TE⟩
                | ((repeat apply Exists.intro); exact ⟨⟨k + 1, by omega, by go_num, TE⟩, rfl⟩)
            · first | (simp [intOf, lenV]; omega) | (simp [intOf]; omega) | (simp [intOf]; done)
          · have hlt' : ¬ (k : Int) < (nn : Int) := by omega
            go_wp2
            go_ret
            exact ⟨rfl, hB.out.trans (T.mono hB.out.size)⟩
    · have h0n : (0 : Int) < (n6 : Int) := by omega
      obtain ⟨K, hK1, hK2⟩ := turn_at turn_ (n := n6) (by omega) (by omega)
      go_upto_region 9 with fail
      rw [hK2]
      clear hK2
      have i1 : (K : Int) ≤ (n6 : Int) := by omega
      have i2 : (K : Int) ≤ (c6 : Int) := by omega
      have i3 : (n6 : Int) - (K : Int) = ((n6 - K : Nat) : Int) := by omega
      have i4 : (1 : Int) ≤ (c6 : Int) := by omega
      have i5 : (0 : Int) ≤ (K : Int) := by omega
      have i6 : K ≤ n6 := by omega
      have i7 : K ≤ c6 := by omega
      have i8 : 1 ≤ c6 := by omega
      have i9 : (n6 : Int) ≤ (c6 : Int) := by omega
      have c1 := hide (r6.out.cut (k := K) (c := c6) (by rw [← e6.out]; exact hcc6))
      have c2 := hide (r6.out.take K)
      have c3 := hide (r6.out.take 1)
      have T6 := hide T
      clear T
      have T : Ext w6 w6.drew := (Below.refl _ _).drew
      refine wp_region_mix (fun W => Below w6.heap.size w6 W) [(0, true), (1, true), (2, true), (3, true), (4, true), (5, true), (6, true), (7, true), (8, false), (9, false), (10, true)] (by kernel_rfl) (by kernel_rfl) (by kernel_rfl) (by kernel_rfl) (fun _ _ d _ _ h => by cases d <;> exact h) ?_ ?_
      · exact T
      obtain ⟨wl, hwh⟩ : ∃ x, x = w6.drew := ⟨_, rfl⟩
      rw [← hwh] at T ⊢
      clear hwh
      iterate 8
        apply mix_q rfl rfl
        · intro W hW
          have hcW := (bcell hW).1
          go_simp
          try exact rfl
        simp only [Act.put, List.setIfInBounds_toArray, List.set_cons_zero, List.set_cons_succ]
      have hLR := hide (lrow3 wl _ A6 A6 (n6 - K) (c6 - K) K c6 1 c6 (a.drop K) (a.take K) (a.take 1) (c1.out.ext T) (by rw [List.length_drop, ← e6.out]) (by rw [List.length_drop, ← e6.out]; omega) (c2.out.ext T) (by rw [List.length_take, ← e6.out]; omega) (by rw [List.length_take]; omega) (c3.out.ext T) (by rw [List.length_take, ← e6.out]; omega) (by rw [List.length_take]; omega))
      refine mix_w rfl rfl (fun K2 hK2 => ?_)
      go_simp
      refine hK2 _ _ (T.alloc T.size _) ?_
      clear hK2 K2
      try simp only [Act.put, List.setIfInBounds_toArray, List.set_cons_zero, List.set_cons_succ]
      have T2 : Ext w6 _ := T.alloc T.size (.cells #[.slice (if c6 = K then A6 else A6.map (fun x => x.add (K * edgeE.sz))) (n6 - K) (c6 - K), .slice A6 K c6, .slice A6 1 c6] 22)
      refine mix_w rfl rfl (fun K2 hK2 => ?_)
      go_simp
      refine (concat_any _ 3 3 _ _ hLR.out rfl (by decide)).mono ?_
      rintro e w7 ⟨v, rfl, hO, hE⟩
      have hfl : flatI [((if c6 = K then A6 else A6.map (fun x => x.add (K * edgeE.sz)), n6 - K, c6 - K), a.drop K), ((A6, K, c6), a.take K), ((A6, 1, c6), a.take 1)] = a.drop K ++ (a.take K ++ a.take 1) := by simp [flatI]
      rw [hfl] at hO
      replace T := T2.trans (hE.mono T2.size)
      refine hK2 _ _ T ?_
      clear hK2 K2 hE T2 hLR hfl c1 c2 c3 i1 i2 i3 i4 i5 i6 i7 i8 i9
      try simp only [Act.put, List.setIfInBounds_toArray, List.set_cons_zero, List.set_cons_succ]
      have m1 := hide (whole_mem a K)
      obtain ⟨lw, hlw⟩ : ∃ l, l = a.drop K ++ (a.take K ++ a.take 1) := ⟨_, rfl⟩
      have hlwl : lw.length ≤ 200 := by rw [hlw]; simp only [List.length_append, List.length_drop, List.length_take]; omega
      rw [← hlw] at hO m1
      clear hlw
      obtain ⟨A44, c44, rfl, r44, hcc44, -⟩ := hO.rd
      obtain ⟨n44, e44⟩ : ∃ q, q = List.length lw := ⟨_, rfl⟩
      rw [← e44] at hcc44 ⊢
      replace r44 := hide r44
      replace e44 := hide e44
      clear hO
      iterate 1
        apply mix_q rfl rfl
        · intro W hW
          have hcW := (bcell hW).1
          go_simp
          try exact rfl
        simp only [Act.put, List.setIfInBounds_toArray, List.set_cons_zero, List.set_cons_succ]
      refine mix_nil ?_
      have hl44 : n44 ≤ 200 := by rw [e44.out]; exact hlwl
      replace T := T6.out.trans (T.mono T6.out.size)
      clear T6
      have hok := hide (part_ok hr.out (fun x hx => (m1.out x).1 hx))
      obtain ⟨o1, o2, o3⟩ := of_yes hok.out
      rw [part_of g5.out m1.out] at o3
      replace o1 := hide o1
      replace o2 := hide o2
      replace o3 := hide o3
      have k50 := (X5.out.ext T).cell 0 (v := .int .i64 (nn : Int)) rfl
      have k51 := (X5.out.ext T).cell 1 rfl
      have s5 := (X5.out.ext T).lt
      go_wp2_with fail
      refine (Of_any nn A44 n44 c44 lw _ r44.out e44.out hcc44 (by omega)).mono ?_
      rintro e w10 ⟨v, rfl, hO, hE⟩
      rw [o3.out] at hO
      rw [o1.out, o2.out]
      replace T := T.trans (hE.mono T.size)
      clear hE
      clear k50 k51 s5
      obtain ⟨A8, c8, rfl, r8, hcc8, -⟩ := hO.rd
      obtain ⟨n8, e8⟩ : ∃ q, q = List.length a := ⟨_, rfl⟩
      rw [← e8] at hcc8 ⊢
      replace r8 := hide r8
      replace e8 := hide e8
      clear hO
      go_upto_region 11 with fail
      obtain ⟨w11, hw⟩ : ∃ q, q = World.alloc w10 (.cells #[.int .i64 (nn : Int), .slice A8 n8 c8] 24) := ⟨_, rfl⟩
      rw [← hw]
      have hE : Ext w10 w11 := by rw [hw]; exact (Below.refl _ _).alloc (Nat.le_refl _) _
      have X8 : Hid (BoxG w11 (World.heap w10).size (nn : Int) A8 n8 c8) := hide (by rw [hw]; exact BoxN.new _ _ _)
      clear hw
      obtain ⟨p8, hp⟩ : ∃ q, q = (World.heap w10).size := ⟨_, rfl⟩
      rw [← hp] at X8 ⊢
      clear hp
      replace r8 := hide (r8.out.ext hE)
      replace T := T.trans (hE.mono T.size)
      clear hE
      have k50 := (X5.out.ext T).cell 0 (v := .int .i64 (nn : Int)) rfl
      have k51 := (X5.out.ext T).cell 1 rfl
      have s5 := (X5.out.ext T).lt
      have hst : startL (nn : Int) a = starts a (nn + 1) := by unfold startL; rw [if_pos hr.out]; simp
      replace hst := hide hst
      go_wp2_with fail
      refine (starts_any nn A5 n6 c5 a _ (r5.out.ext T) e5.out hl5b).mono ?_
      rintro e w12 ⟨v, rfl, hO, hE⟩
      rw [hst.out] at hO
      rw [hch.out]
      replace r8 := hide (r8.out.ext hE)
      replace X8 := hide (X8.out.ext hE)
      replace T := T.trans (hE.mono T.size)
      clear hE
      clear k50 k51 s5
      obtain ⟨A10, c10, rfl, r10, hcc10, -⟩ := hO.rd
      rw [starts_len] at hcc10 ⊢
      replace r10 := hide r10
      clear hO
      have gall := cntB_all hr.out
      have hlast : (starts a (nn + 1))[nn]? = some ((n6 : Nat) : Int) := by rw [starts_get (by omega), gall, ← e5.out]
      replace gall := hide gall
      obtain ⟨b10, o10, rfl, ra⟩ := r10.out.at_ (i := nn) (by rw [starts_len]; omega)
      have hcl := ra.int hlast
      have hb10 := ra.1
      replace ra := hide ra
      replace hlast := hide hlast
      have j1 : (nn : Int) < (nn : Int) + 1 := by omega
      have j2 : (0 : Int) ≤ (nn : Int) := by omega
      have j3 : IntKind.i64.wrap ((nn : Int) + 1) = (nn : Int) + 1 := IntWalk.i64_in _ (by omega)
      have k50 := (X5.out.ext T).cell 0 (v := .int .i64 (nn : Int)) rfl
      have k51 := (X5.out.ext T).cell 1 rfl
      have s5 := (X5.out.ext T).lt
      have k80 := X8.out.cell 0 (v := .int .i64 (nn : Int)) rfl
      have k81 := X8.out.cell 1 rfl
      have s8 := X8.out.lt
      have T12 := hide T
      have Q5 := hide (r5.out.ext T)
      clear T
      go_upto_region 12 with fail
      have T : Ext w12 w12.drew := (Below.refl _ _).drew
      refine wp_region_mix (fun W => Below w12.heap.size w12 W) [(0, true), (1, true), (2, true), (3, true), (4, true), (5, true), (6, true), (7, true), (8, true), (9, false), (10, true), (11, true), (12, true), (13, true), (14, true), (15, true), (16, true), (17, true), (18, true), (19, true), (20, true), (21, true), (22, true), (23, true), (24, true), (25, true), (26, true), (27, true), (28, true), (29, true), (30, true)] (by kernel_rfl) (by kernel_rfl) (by kernel_rfl) (by kernel_rfl) (fun _ _ d _ _ h => by cases d <;> exact h) ?_ ?_
      · exact T
      obtain ⟨wl, hwh⟩ : ∃ x, x = w12.drew := ⟨_, rfl⟩
      rw [← hwh] at T ⊢
      clear hwh
      iterate 3
        apply mix_q rfl rfl
        · intro W hW
          have hcW := (bcell hW).1
          go_simp
          try exact rfl
        simp only [Act.put, List.setIfInBounds_toArray, List.set_cons_zero, List.set_cons_succ]
      iterate 2
        apply mix_on rfl (wanted_is rfl rfl rfl rfl rfl)
        · intro W hW
          have hcW := (bcell hW).1
          go_simp
          try exact rfl
        simp only [Act.put, List.setIfInBounds_toArray, List.set_cons_zero, List.set_cons_succ]
      iterate 2
        apply mix_q rfl rfl
        · intro W hW
          have hcW := (bcell hW).1
          go_simp
          try exact rfl
        simp only [Act.put, List.setIfInBounds_toArray, List.set_cons_zero, List.set_cons_succ]
      iterate 2
        apply mix_on rfl (wanted_is rfl rfl rfl rfl rfl)
        · intro W hW
          have hcW := (bcell hW).1
          go_simp
          try exact rfl
        simp only [Act.put, List.setIfInBounds_toArray, List.set_cons_zero, List.set_cons_succ]
      refine mix_won rfl (wanted_is rfl rfl rfl rfl rfl) (fun K hK => ?_)
      go_simp
      refine (same_any nn nn A8 A5 n8 c8 n6 c5 a a _ (r8.out.ext T) e8.out (Q5.out.ext T) e5.out (by have := e8.out; omega)).mono ?_
      rintro e w13 ⟨rfl, hE⟩
      refine hK _ _ (T.trans (hE.mono T.size)) ?_
      clear hK K
      try simp only [Act.put, List.setIfInBounds_toArray, List.set_cons_zero, List.set_cons_succ]
      replace T := T.trans (hE.mono T.size)
      rw [sameG_self]
      clear hE
      iterate 1
        apply mix_on rfl (wanted_is rfl rfl rfl rfl rfl)
        · intro W hW
          have hcW := (bcell hW).1
          go_simp
          try exact rfl
        simp only [Act.put, List.setIfInBounds_toArray, List.set_cons_zero, List.set_cons_succ]
      iterate 2
        apply mix_q rfl rfl
        · intro W hW
          have hcW := (bcell hW).1
          go_simp
          try exact rfl
        simp only [Act.put, List.setIfInBounds_toArray, List.set_cons_zero, List.set_cons_succ]
      iterate 6
        apply mix_on rfl (wanted_is rfl rfl rfl rfl rfl)
        · intro W hW
          have hcW := (bcell hW).1
          go_simp
          try exact rfl
        simp only [Act.put, List.setIfInBounds_toArray, List.set_cons_zero, List.set_cons_succ]
      iterate 2
        apply mix_q rfl rfl
        · intro W hW
          have hcW := (bcell hW).1
          go_simp
          try exact rfl
        simp only [Act.put, List.setIfInBounds_toArray, List.set_cons_zero, List.set_cons_succ]
      iterate 9
        apply mix_on rfl (wanted_is rfl rfl rfl rfl rfl)
        · intro W hW
          have hcW := (bcell hW).1
          go_simp
          try exact rfl
        simp only [Act.put, List.setIfInBounds_toArray, List.set_cons_zero, List.set_cons_succ]
      iterate 1
        apply mix_q rfl rfl
        · intro W hW
          have hcW := (bcell hW).1
          go_simp
          try exact rfl
        simp only [Act.put, List.setIfInBounds_toArray, List.set_cons_zero, List.set_cons_succ]
      refine mix_nil ?_
      clear k50 k51 s5 k80 k81 s8 hcl hb10 X8 r8 e8 hcc8
      have HWT := T
      replace T := T12.out.trans (T.mono T12.out.size)
      have hr10 : Hid (∀ W, Ext w12 W → Rd intE W.heap.size W (some ⟨b10, o10, none⟩) (starts a (nn + 1))) := hide (fun W hW => r10.out.ext hW)
      have k50 := (X5.out.ext T).cell 0 (v := .int .i64 (nn : Int)) rfl
      have k51 := (X5.out.ext T).cell 1 rfl
      have s5 := (X5.out.ext T).lt
      have T13 := hide T
      have HW := hide HWT
      by_cases h20 : (20 : Int) < (nn : Int)
      · have hk20n : 20 ≤ nn := by omega
        go_wp2
        go_loopw [91] (fun i wr => ∃ k : Nat, k ≤ 20 ∧ i = .int .i64 k ∧ Ext w13 wr) (fun i _ => 20 - (intOf i).toNat)
        case atStart => exact ⟨0, Nat.zero_le _, rfl, Below.refl _ _⟩
        case round =>
          clear T k50 k51 s5
          obtain ⟨k, hk, rfl, TW⟩ := hrel
          have T := T13.out.trans (TW.mono T13.out.size)
          by_cases hlt : k < 20
          · have hlt' : (k : Int) < (20 : Int) := by omega
            have q1 := ask1 hr.out (v := (k : Int)) ⟨by omega, by omega⟩
            have ho : outL nn a k = a.filter fun x => decide (x.1 = (k : Int)) := by unfold outL; rw [if_pos q1]
            obtain ⟨o, ho2⟩ : ∃ o, o = a.filter fun x => decide (x.1 = (k : Int)) := ⟨_, rfl⟩
            rw [← ho2] at ho
            have hbt := out_between g5.out k
            rw [← ho2] at hbt
            have hol : o.length ≤ 80 := by rw [ho2]; exact Nat.le_trans (List.length_filter_le _ _) hla
            clear ho2
            have d1 := cntB_mono a k
            have d2 := cntB_le a (k + 1)
            rw [← e5.out] at d2
            have c1 := starts_get (a := a) (N := nn + 1) (v := k) (by omega)
            have c2 := starts_get (a := a) (N := nn + 1) (v := k + 1) (by omega)
            obtain ⟨i, hi⟩ : ∃ i, i = cntB a k := ⟨_, rfl⟩
            obtain ⟨j, hj⟩ : ∃ j, j = cntB a (k + 1) := ⟨_, rfl⟩
            rw [← hi] at d1 c1 hbt
            rw [← hj] at d1 d2 c2 hbt
            have hlen : o.length = j - i := by rw [← hbt, List.length_take, List.length_drop, ← e5.out]; omega
            clear hi hj
            replace q1 := hide q1
            replace ho := hide ho
            replace hbt := hide hbt
            replace hlen := hide hlen
            replace c1 := hide c1
            replace c2 := hide c2
            have k50 := (X5.out.ext T).cell 0 (v := .int .i64 (nn : Int)) rfl
            have k51 := (X5.out.ext T).cell 1 rfl
            have s5 := (X5.out.ext T).lt
            go_wp2_with fail
            refine (out_any nn k A5 n6 c5 a _ (r5.out.ext T) e5.out hcc5 hl5b).mono ?_
            rintro e w14 ⟨v, rfl, hO, hE⟩
            rw [ho.out] at hO
            rw [q1.out]
            replace T := T.trans (hE.mono T.size)
            replace TW := TW.trans (hE.mono TW.size)
            clear hE
            clear k50 k51 s5
            obtain ⟨A13, c13, rfl, r13, hcc13, -⟩ := hO.rd
            obtain ⟨n13, e13⟩ : ∃ q, q = List.length o := ⟨_, rfl⟩
            rw [← e13] at hcc13 ⊢
            replace r13 := hide r13
            replace e13 := hide e13
            clear hO
            have rs := hr10.out w14 (HW.out.trans (TW.mono HW.out.size))
            obtain ⟨b, o2, hbo, ra⟩ := rs.at_ (i := k) (by rw [starts_len]; omega)
            injection hbo with hbo
            injection hbo with hb_ ho_
            subst hb_ ho_
            have v1 := ra.int c1.out
            have v2 := ra.int c2.out
            have vb := ra.1
            replace ra := hide ra
            clear rs
            have f1 : (k : Int) < (nn : Int) + 1 := by omega
            have f2 : (k : Int) + 1 < (nn : Int) + 1 := by omega
            have f3 : IntKind.i64.wrap ((k : Int) + 1) = (k : Int) + 1 := IntWalk.i64_in _ (by omega)
            have f4 : ((k : Int) + 1).toNat = k + 1 := by omega
            have f5 : (0 : Int) ≤ (k : Int) + 1 := by omega
            have f6 : (i : Int) ≤ (j : Int) := by omega
            have f7 : (j : Int) ≤ (c5 : Int) := by omega
            have f8 : (j : Int) - (i : Int) = ((j - i : Nat) : Int) := by omega
            have k50 := (X5.out.ext T).cell 0 (v := .int .i64 (nn : Int)) rfl
            have k51 := (X5.out.ext T).cell 1 rfl
            have s5 := (X5.out.ext T).lt
            have Q5b := ((r5.out.ext T).cut (k := i) (c := c5) (by rw [← e5.out]; exact hcc5)).take (j - i)
            rw [hbt.out] at Q5b
            replace Q5b := hide Q5b
            have T14 := hide T
            have TW14 := hide TW
            clear T TW
            go_upto_region 18 with fail
            have T : Ext w14 w14.drew := (Below.refl _ _).drew
            refine wp_region_mix (fun W => Below w14.heap.size w14 W) [(0, true), (1, true), (2, true), (3, true), (4, true), (5, true), (6, true), (7, true), (8, true), (9, true), (10, true), (11, true), (12, true), (13, true), (14, true), (15, true), (16, false), (17, true), (18, true)] (by kernel_rfl) (by kernel_rfl) (by kernel_rfl) (by kernel_rfl) (fun _ _ d _ _ h => by cases d <;> exact h) ?_ ?_
            · exact T
            obtain ⟨wl, hwh⟩ : ∃ x, x = w14.drew := ⟨_, rfl⟩
            rw [← hwh] at T ⊢
            clear hwh
            iterate 3
              apply mix_q rfl rfl
              · intro W hW
                have hcW := (bcell hW).1
                go_simp
                try exact rfl
              simp only [Act.put, List.setIfInBounds_toArray, List.set_cons_zero, List.set_cons_succ]
            iterate 13
              apply mix_on rfl (wanted_is rfl rfl rfl rfl rfl)
              · intro W hW
                have hcW := (bcell hW).1
                go_simp
                try exact rfl
              simp only [Act.put, List.setIfInBounds_toArray, List.set_cons_zero, List.set_cons_succ]
            refine mix_won rfl (wanted_is rfl rfl rfl rfl rfl) (fun K hK => ?_)
            go_simp
            refine (equal_Edge A13 _ n13 c13 _ _ o o _ e13.out (r13.out.ext T) hlen.out.symm (Q5b.out.ext T) (by have := e13.out; omega)).mono ?_
            rintro e w15 ⟨rfl, hE⟩
            refine hK _ _ (T.trans (hE.mono T.size)) ?_
            clear hK K
            try simp only [Act.put, List.setIfInBounds_toArray, List.set_cons_zero, List.set_cons_succ]
            replace T := T.trans (hE.mono T.size)
            try rw [show decide (o = o) = true from decide_eq_true rfl]
            clear hE
            iterate 1
              apply mix_on rfl (wanted_is rfl rfl rfl rfl rfl)
              · intro W hW
                have hcW := (bcell hW).1
                go_simp
                try exact rfl
              simp only [Act.put, List.setIfInBounds_toArray, List.set_cons_zero, List.set_cons_succ]
            iterate 1
              apply mix_q rfl rfl
              · intro W hW
                have hcW := (bcell hW).1
                go_simp
                try exact rfl
              simp only [Act.put, List.setIfInBounds_toArray, List.set_cons_zero, List.set_cons_succ]
            refine mix_nil ?_
            have TE := TW14.out.trans (T.mono TW14.out.size)
            clear T k50 k51 s5 v1 v2 vb
            go_wp2
            refine ⟨?_, ?_⟩
            · first
                | exact ⟨k + 1, by omega, by go_num, TE⟩
                | ((repeat apply Exists.intro); exact ⟨⟨k + 1, by omega, by go_num, TE⟩, rfl⟩)
            · first | (simp [intOf, lenV]; omega) | (simp [intOf]; omega) | (simp [intOf]; done)
          · have hlt' : ¬ (k : Int) < (20 : Int) := by omega
            go_wp2
            go_ret
            exact ⟨rfl, hB.out.trans (T.mono hB.out.size)⟩
      · go_wp2
        go_loopw [91] (fun i wr => ∃ k : Nat, k ≤ nn ∧ i = .int .i64 k ∧ Ext w13 wr) (fun i _ => nn - (intOf i).toNat)
        case atStart => exact ⟨0, Nat.zero_le _, rfl, Below.refl _ _⟩
        case round =>
          clear T k50 k51 s5
          obtain ⟨k, hk, rfl, TW⟩ := hrel
          have T := T13.out.trans (TW.mono T13.out.size)
          by_cases hlt : k < nn
          · have hlt' : (k : Int) < (nn : Int) := by omega
            have q1 := ask1 hr.out (v := (k : Int)) ⟨by omega, by omega⟩
            have ho : outL nn a k = a.filter fun x => decide (x.1 = (k : Int)) := by unfold outL; rw [if_pos q1]
            obtain ⟨o, ho2⟩ : ∃ o, o = a.filter fun x => decide (x.1 = (k : Int)) := ⟨_, rfl⟩
            rw [← ho2] at ho
            have hbt := out_between g5.out k
            rw [← ho2] at hbt
            have hol : o.length ≤ 80 := by rw [ho2]; exact Nat.le_trans (List.length_filter_le _ _) hla
            clear ho2
            have d1 := cntB_mono a k
            have d2 := cntB_le a (k + 1)
            rw [← e5.out] at d2
            have c1 := starts_get (a := a) (N := nn + 1) (v := k) (by omega)
            have c2 := starts_get (a := a) (N := nn + 1) (v := k + 1) (by omega)
            obtain ⟨i, hi⟩ : ∃ i, i = cntB a k := ⟨_, rfl⟩
            obtain ⟨j, hj⟩ : ∃ j, j = cntB a (k + 1) := ⟨_, rfl⟩
            rw [← hi] at d1 c1 hbt
            rw [← hj] at d1 d2 c2 hbt
            have hlen : o.length = j - i := by rw [← hbt, List.length_take, List.length_drop, ← e5.out]; omega
            clear hi hj
            replace q1 := hide q1
            replace ho := hide ho
            replace hbt := hide hbt
            replace hlen := hide hlen
            replace c1 := hide c1
            replace c2 := hide c2
            have k50 := (X5.out.ext T).cell 0 (v := .int .i64 (nn : Int)) rfl
            have k51 := (X5.out.ext T).cell 1 rfl
            have s5 := (X5.out.ext T).lt
            go_wp2_with fail
            refine (out_any nn k A5 n6 c5 a _ (r5.out.ext T) e5.out hcc5 hl5b).mono ?_
            rintro e w14 ⟨v, rfl, hO, hE⟩
            rw [ho.out] at hO
            rw [q1.out]
            replace T := T.trans (hE.mono T.size)
            replace TW := TW.trans (hE.mono TW.size)
            clear hE
            clear k50 k51 s5
            obtain ⟨A13, c13, rfl, r13, hcc13, -⟩ := hO.rd
            obtain ⟨n13, e13⟩ : ∃ q, q = List.length o := ⟨_, rfl⟩
            rw [← e13] at hcc13 ⊢
            replace r13 := hide r13
            replace e13 := hide e13
            clear hO
            have rs := hr10.out w14 (HW.out.trans (TW.mono HW.out.size))
            obtain ⟨b, o2, hbo, ra⟩ := rs.at_ (i := k) (by rw [starts_len]; omega)
            injection hbo with hbo
            injection hbo with hb_ ho_
            subst hb_ ho_
            have v1 := ra.int c1.out
            have v2 := ra.int c2.out
            have vb := ra.1
            replace ra := hide ra
            clear rs
            have f1 : (k : Int) < (nn : Int) + 1 := by omega
            have f2 : (k : Int) + 1 < (nn : Int) + 1 := by omega
            have f3 : IntKind.i64.wrap ((k : Int) + 1) = (k : Int) + 1 := IntWalk.i64_in _ (by omega)
            have f4 : ((k : Int) + 1).toNat = k + 1 := by omega
            have f5 : (0 : Int) ≤ (k : Int) + 1 := by omega
            have f6 : (i : Int) ≤ (j : Int) := by omega
            have f7 : (j : Int) ≤ (c5 : Int) := by omega
            have f8 : (j : Int) - (i : Int) = ((j - i : Nat) : Int) := by omega
            have k50 := (X5.out.ext T).cell 0 (v := .int .i64 (nn : Int)) rfl
            have k51 := (X5.out.ext T).cell 1 rfl
            have s5 := (X5.out.ext T).lt
            have Q5b := ((r5.out.ext T).cut (k := i) (c := c5) (by rw [← e5.out]; exact hcc5)).take (j - i)
            rw [hbt.out] at Q5b
            replace Q5b := hide Q5b
            have T14 := hide T
            have TW14 := hide TW
            clear T TW
            go_upto_region 18 with fail
            have T : Ext w14 w14.drew := (Below.refl _ _).drew
            refine wp_region_mix (fun W => Below w14.heap.size w14 W) [(0, true), (1, true), (2, true), (3, true), (4, true), (5, true), (6, true), (7, true), (8, true), (9, true), (10, true), (11, true), (12, true), (13, true), (14, true), (15, true), (16, false), (17, true), (18, true)] (by kernel_rfl) (by kernel_rfl) (by kernel_rfl) (by kernel_rfl) (fun _ _ d _ _ h => by cases d <;> exact h) ?_ ?_
            · exact T
            obtain ⟨wl, hwh⟩ : ∃ x, x = w14.drew := ⟨_, rfl⟩
            rw [← hwh] at T ⊢
            clear hwh
            iterate 3
              apply mix_q rfl rfl
              · intro W hW
                have hcW := (bcell hW).1
                go_simp
                try exact rfl
              simp only [Act.put, List.setIfInBounds_toArray, List.set_cons_zero, List.set_cons_succ]
            iterate 13
              apply mix_on rfl (wanted_is rfl rfl rfl rfl rfl)
              · intro W hW
                have hcW := (bcell hW).1
                go_simp
                try exact rfl
              simp only [Act.put, List.setIfInBounds_toArray, List.set_cons_zero, List.set_cons_succ]
            refine mix_won rfl (wanted_is rfl rfl rfl rfl rfl) (fun K hK => ?_)
            go_simp
            refine (equal_Edge A13 _ n13 c13 _ _ o o _ e13.out (r13.out.ext T) hlen.out.symm (Q5b.out.ext T) (by have := e13.out; omega)).mono ?_
            rintro e w15 ⟨rfl, hE⟩
            refine hK _ _ (T.trans (hE.mono T.size)) ?_
            clear hK K
            try simp only [Act.put, List.setIfInBounds_toArray, List.set_cons_zero, List.set_cons_succ]
            replace T := T.trans (hE.mono T.size)
            try rw [show decide (o = o) = true from decide_eq_true rfl]
            clear hE
            iterate 1
              apply mix_on rfl (wanted_is rfl rfl rfl rfl rfl)
              · intro W hW
                have hcW := (bcell hW).1
                go_simp
                try exact rfl
              simp only [Act.put, List.setIfInBounds_toArray, List.set_cons_zero, List.set_cons_succ]
            iterate 1
              apply mix_q rfl rfl
              · intro W hW
                have hcW := (bcell hW).1
                go_simp
                try exact rfl
              simp only [Act.put, List.setIfInBounds_toArray, List.set_cons_zero, List.set_cons_succ]
            refine mix_nil ?_
            have TE := TW14.out.trans (T.mono TW14.out.size)
            clear T k50 k51 s5 v1 v2 vb
            go_wp2
            refine ⟨?_, ?_⟩
            · first
                | exact ⟨k + 1, by omega, by go_num, TE⟩
                | ((repeat apply Exists.intro); exact ⟨⟨k + 1, by omega, by go_num, TE⟩, rfl⟩)
            · first | (simp [intOf, lenV]; omega) | (simp [intOf]; omega) | (simp [intOf]; done)
          · have hlt' : ¬ (k : Int) < (nn : Int) := by omega
            go_wp2
            go_ret
            exact ⟨rfl, hB.out.trans (T.mono hB.out.size)⟩
end Go.Proofs.Ytoihankkldafoaa
