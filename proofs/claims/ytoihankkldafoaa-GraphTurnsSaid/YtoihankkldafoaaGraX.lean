/- GraphBack: the walk. -/
import Derived.Test.YtoihankkldafoaaGraW
namespace Go.Proofs.Ytoihankkldafoaa
open Go.RowKit

/-! ### Plainly -/
theorem turn_turn (x : Int × Int × Int) : turn (turn x) = x := rfl
theorem mem_turn {l : List (Int × Int × Int)} {z : Int × Int × Int} : z ∈ l.map turn ↔ turn z ∈ l := by
  rw [List.mem_map]
  constructor
  · rintro ⟨y, hy, rfl⟩; exact hy
  · intro h; exact ⟨turn z, h, rfl⟩
theorem rightE_turn (n : Int) (x : Int × Int × Int) : rightE n (turn x) = rightE n x := by
  rw [Bool.eq_iff_iff, rightE_iff, rightE_iff]
  unfold turn
  simp only
  omega
theorem rev_right {n : Int} {a : List (Int × Int × Int)} (h : rightG n a = true) : rightG n (ofE (a.map turn)) = true := by
  obtain ⟨h1, h2, h3, h4, h5⟩ := (rightG_iff n a).1 h
  refine (rightG_iff n _).2 ⟨h1, h2, ?_, fun x hx => ?_, ofE_strict _⟩
  · have := ofE_len (a.map turn)
    rw [List.length_map] at this
    omega
  · rw [mem_ofE, mem_turn] at hx
    rw [← rightE_turn]
    exact h4 _ hx
theorem rev_rev {a : List (Int × Int × Int)} (h : Strict a) : ofE ((ofE (a.map turn)).map turn) = a :=
  strict_ext (ofE_strict _) h fun z => by rw [mem_ofE, mem_turn, mem_ofE, mem_turn, turn_turn]
theorem in_out {a : List (Int × Int × Int)} (h : Strict a) (v : Int) : (ofE (a.map turn)).filter (fun x => decide (x.2.1 = v)) = (a.filter fun x => decide (x.1 = v)).map turn := by
  refine strict_ext (List.Pairwise.filter _ (ofE_strict _)) ?_ fun z => ?_
  · refine List.pairwise_map.2 ?_
    have h1 : (a.filter fun x => decide (x.1 = v)).Pairwise fun x y => ltE x y = true := List.Pairwise.filter _ h
    refine List.Pairwise.imp_of_mem (fun {x y} hx hy hxy => ?_) h1
    have e1 : x.1 = v := by simpa using (List.mem_filter.1 hx).2
    have e2 : y.1 = v := by simpa using (List.mem_filter.1 hy).2
    rw [ltE_iff] at hxy ⊢
    unfold turn
    simp only
    omega
  · rw [List.mem_filter, mem_ofE, mem_turn, mem_turn, List.mem_filter]
    rfl
theorem ask1 {n : Int} {a : List (Int × Int × Int)} (h : rightG n a = true) {v : Int} (hv : 0 ≤ v ∧ v < n) : askE n a [v] = 0 := by
  unfold askE nodeIn
  rw [if_pos h]
  simp [hv.1, hv.2]
set_option maxRecDepth 100000 in
set_option maxHeartbeats 8000000 in
theorem graphBack_any (n : Int) (A : Option Addr) (m c : Nat) (xs : List (Int × Int × Int)) (w : World) (hm : m = xs.length) (hmc : m ≤ c) (h : Rd edgeE w.heap.size w A xs) :
    Calls Try.prog 6 #[.agg #[.int .i64 n, .slice A m c]] w fun e w' => e = .returned (.bool true) ∧ Ext w w' := by
  replace h := hide h
  replace hm := hide hm
  go_enter Try.func6, Try.ntmps6
  go_upto_region 1 with fail
  obtain ⟨w0, hw0⟩ : ∃ w0, w0 = w.alloc (.cells #[.int .i64 n, .slice A m c] 24) := ⟨_, rfl⟩
  rw [← hw0]
  have T : Ext w w0 := by rw [hw0]; exact (Below.refl _ _).alloc (Nat.le_refl _) _
  have X1 : Hid (BoxG w0 w.heap.size n A m c) := hide (by rw [hw0]; exact BoxN.new w _ _)
  clear hw0
  obtain ⟨p1, hp⟩ : ∃ q, q = w.heap.size := ⟨_, rfl⟩
  rw [← hp] at X1 ⊢
  clear hp
  go_wp2_with fail
  refine (wakes_any _).mono ?_
  rintro e w1 ⟨rfl, hE⟩
  replace T := T.trans (hE.mono T.size)
  replace X1 := hide (X1.out.ext hE)
  clear hE
  have k10 := X1.out.cell 0 (v := .int .i64 n) rfl
  have k11 := X1.out.cell 1 rfl
  have s1 := X1.out.lt
  have hla : (xs.take 80).length ≤ 80 := by rw [List.length_take]; omega
  obtain ⟨a, ha⟩ : ∃ a, a = xs.take 80 := ⟨_, rfl⟩
  rw [← ha] at hla
  replace ha := hide ha
  go_wp2_with fail
  refine (fair_any n A m c xs _ (h.out.ext T) hm.out hmc).mono ?_
  rintro e w2 ⟨v, rfl, hO, hE⟩
  rw [← ha.out] at hO
  replace T := T.trans (hE.mono T.size)
  replace X1 := hide (X1.out.ext hE)
  clear hE
  clear k10 k11 s1
  obtain ⟨A3, c3, rfl, r3, hcc3, -⟩ := hO.rd
  obtain ⟨n3, e3⟩ : ∃ q, q = List.length a := ⟨_, rfl⟩
  rw [← e3] at hcc3 ⊢
  replace r3 := hide r3
  replace e3 := hide e3
  clear hO
  have hl3 : n3 ≤ 80 := by have := e3.out; omega
  have hl3b : n3 ≤ 1000000 := by omega
  go_upto_region 4 with fail
  obtain ⟨w4, hw⟩ : ∃ q, q = World.alloc w2 (.cells #[.int .i64 n, .slice A3 n3 c3] 24) := ⟨_, rfl⟩
  rw [← hw]
  have hE : Ext w2 w4 := by rw [hw]; exact (Below.refl _ _).alloc (Nat.le_refl _) _
  have X3 : Hid (BoxG w4 (World.heap w2).size n A3 n3 c3) := hide (by rw [hw]; exact BoxN.new _ _ _)
  clear hw
  obtain ⟨p3, hp⟩ : ∃ q, q = (World.heap w2).size := ⟨_, rfl⟩
  rw [← hp] at X3 ⊢
  clear hp
  replace r3 := hide (r3.out.ext hE)
  have hB := hide (T.trans (hE.mono T.size))
  clear hE T X1
  have T : Ext w4 w4 := Below.refl _ _
  have k30 := (X3.out.ext T).cell 0 (v := .int .i64 n) rfl
  have k31 := (X3.out.ext T).cell 1 rfl
  have s3 := (X3.out.ext T).lt
  obtain ⟨y1, hy1⟩ : ∃ q, q = gN n a := ⟨_, rfl⟩
  obtain ⟨y2, hy2⟩ : ∃ q, q = chkG n a := ⟨_, rfl⟩
  obtain ⟨b, hb⟩ : ∃ q, q = gL n a (ofE (a.map turn)) := ⟨_, rfl⟩
  replace hy1 := hide hy1
  replace hy2 := hide hy2
  replace hb := hide hb
  go_wp2_with fail
  refine (reverse_any n A3 n3 c3 a _ (r3.out.ext T) e3.out hl3b).mono ?_
  rintro e w5 ⟨v, rfl, hO, hE⟩
  rw [← hb.out] at hO
  rw [← hy1.out, ← hy2.out]
  replace T := T.trans (hE.mono T.size)
  clear hE
  clear k30 k31 s3
  obtain ⟨A4, c4, rfl, r4, hcc4, -⟩ := hO.rd
  obtain ⟨n4, e4⟩ : ∃ q, q = List.length b := ⟨_, rfl⟩
  rw [← e4] at hcc4 ⊢
  replace r4 := hide r4
  replace e4 := hide e4
  clear hO
  go_upto_region 5 with fail
  obtain ⟨w6, hw⟩ : ∃ q, q = World.alloc w5 (.cells #[.int .i64 y1, .slice A4 n4 c4] 24) := ⟨_, rfl⟩
  rw [← hw]
  have hE : Ext w5 w6 := by rw [hw]; exact (Below.refl _ _).alloc (Nat.le_refl _) _
  have X4 : Hid (BoxG w6 (World.heap w5).size y1 A4 n4 c4) := hide (by rw [hw]; exact BoxN.new _ _ _)
  clear hw
  obtain ⟨p4, hp⟩ : ∃ q, q = (World.heap w5).size := ⟨_, rfl⟩
  rw [← hp] at X4 ⊢
  clear hp
  replace r4 := hide (r4.out.ext hE)
  replace T := T.trans (hE.mono T.size)
  clear hE
  cases hr : rightG n a with
  | false =>
    obtain rfl : y2 = 150 := hy2.out.trans (chkG_no hr)
    have hch := hide (chkG_no hr)
    replace hr := hide hr
    have k30 := (X3.out.ext T).cell 0 (v := .int .i64 n) rfl
    have k31 := (X3.out.ext T).cell 1 rfl
    have s3 := (X3.out.ext T).lt
    go_wp2_with fail
    refine (check_any n A3 n3 c3 a _ (r3.out.ext T) e3.out hl3b).mono ?_
    rintro e w7 ⟨rfl, hE⟩
    rw [hch.out]
    replace T := T.trans (hE.mono T.size)
    clear hE
    clear k30 k31 s3
    go_wp2
    go_ret
    exact ⟨rfl, hB.out.trans (T.mono hB.out.size)⟩
  | true =>
    obtain ⟨v1, v2, v3⟩ := g_yes (l := ofE (a.map turn)) hr
    obtain rfl : y2 = 0 := hy2.out.trans v2
    obtain rfl : n = y1 := (hy1.out.trans v1).symm
    rw [← hb.out] at v3
    obtain ⟨g1, g2, g3, g4, g5⟩ := (rightG_iff n a).1 hr
    have hrb : rightG n b = true := by rw [v3]; exact rev_right hr
    have hrr : ofE (b.map turn) = a := by rw [v3]; exact rev_rev g5
    have hio : ∀ v : Int, b.filter (fun x => decide (x.2.1 = v)) = (a.filter fun x => decide (x.1 = v)).map turn := fun v => by rw [v3]; exact in_out g5 v
    have hl4 : n4 ≤ 80 := by have h1 := e4.out; have h2 := ofE_len (a.map turn); rw [List.length_map] at h2; rw [v3] at h1; omega
    have hl4b : n4 ≤ 1000000 := by omega
    obtain ⟨u1, u2, u3⟩ := g_yes (l := ofE (b.map turn)) hrb
    rw [hrr] at u3
    have hcb := hide u2
    replace u1 := hide u1
    replace u2 := hide u2
    replace u3 := hide u3
    replace hr := hide hr
    replace hrb := hide hrb
    replace hrr := hide hrr
    replace hio := hide hio
    clear v1 v2 v3 g3 g4 g5
    have T6 := hide T
    replace r3 := hide (r3.out.ext T)
    replace X3 := hide (X3.out.ext T)
    clear T
    have T : Ext w6 w6 := Below.refl _ _
    have k40 := (X4.out.ext T).cell 0 (v := .int .i64 n) rfl
    have k41 := (X4.out.ext T).cell 1 rfl
    have s4 := (X4.out.ext T).lt
    go_wp2_with fail
    refine (reverse_any n A4 n4 c4 b _ (r4.out.ext T) e4.out hl4b).mono ?_
    rintro e w7 ⟨v, rfl, hO, hE⟩
    rw [hrr.out, u3.out] at hO
    rw [u1.out, u2.out]
    replace T := T.trans (hE.mono T.size)
    clear hE
    clear k40 k41 s4
    obtain ⟨A6, c6, rfl, r6, hcc6, -⟩ := hO.rd
    obtain ⟨n6, e6⟩ : ∃ q, q = List.length a := ⟨_, rfl⟩
    rw [← e6] at hcc6 ⊢
    replace r6 := hide r6
    replace e6 := hide e6
    clear hO
    go_upto_region 8 with fail
    obtain ⟨w8, hw⟩ : ∃ q, q = World.alloc w7 (.cells #[.int .i64 n, .slice A6 n6 c6] 24) := ⟨_, rfl⟩
    rw [← hw]
    have hE : Ext w7 w8 := by rw [hw]; exact (Below.refl _ _).alloc (Nat.le_refl _) _
    have X6 : Hid (BoxG w8 (World.heap w7).size n A6 n6 c6) := hide (by rw [hw]; exact BoxN.new _ _ _)
    clear hw
    obtain ⟨p6, hp⟩ : ∃ q, q = (World.heap w7).size := ⟨_, rfl⟩
    rw [← hp] at X6 ⊢
    clear hp
    replace r6 := hide (r6.out.ext hE)
    replace T := T.trans (hE.mono T.size)
    clear hE
    have T8 := hide T
    have k60 := X6.out.cell 0 (v := .int .i64 n) rfl
    have k61 := X6.out.cell 1 rfl
    have s6 := X6.out.lt
    have k30 := (X3.out.ext T).cell 0 (v := .int .i64 n) rfl
    have k31 := (X3.out.ext T).cell 1 rfl
    have s3 := (X3.out.ext T).lt
    go_wp2_with fail
    refine (same_any n n A6 A3 n6 c6 n3 c3 a a _ r6.out e6.out (r3.out.ext T) e3.out (by have := e6.out; omega)).mono ?_
    rintro e w9 ⟨rfl, hE⟩
    rw [sameG_self]
    replace T := T.trans (hE.mono T.size)
    clear hE
    clear k30 k31 s3
    clear k60 k61 s6 r6 e6 hcc6 X6
    have k40 := (X4.out.ext T).cell 0 (v := .int .i64 n) rfl
    have k41 := (X4.out.ext T).cell 1 rfl
    have s4 := (X4.out.ext T).lt
    go_wp2_with fail
    refine (check_any n A4 n4 c4 b _ (r4.out.ext T) e4.out hl4b).mono ?_
    rintro e w10 ⟨rfl, hE⟩
    rw [hcb.out]
    replace T := T.trans (hE.mono T.size)
    clear hE
    clear k40 k41 s4
    obtain ⟨nn, hnn⟩ : ∃ nn : Nat, n = nn := ⟨n.toNat, by omega⟩
    subst hnn
    have k30 := (X3.out.ext T).cell 0 (v := .int .i64 (nn : Int)) rfl
    have k31 := (X3.out.ext T).cell 1 rfl
    have s3 := (X3.out.ext T).lt
    have T10 := hide T
    by_cases h12 : (12 : Int) < (nn : Int)
    · have hk12n : 12 ≤ nn := by omega
      go_wp2
      go_loopw [49] (fun i wr => ∃ k : Nat, k ≤ 12 ∧ i = .int .i64 k ∧ Ext w6 wr) (fun i _ => 12 - (intOf i).toNat)
      case atStart => exact ⟨0, Nat.zero_le _, rfl, T10.out⟩
      case round =>
        clear T k30 k31 s3
        obtain ⟨k, hk, rfl, T⟩ := hrel
        by_cases hlt : k < 12
        · have hlt' : (k : Int) < (12 : Int) := by omega
          have q1 := ask1 hr.out (v := (k : Int)) ⟨by omega, by omega⟩
          have q2 := ask1 hrb.out (v := (k : Int)) ⟨by omega, by omega⟩
          have ho : outL nn a k = a.filter fun x => decide (x.1 = (k : Int)) := by unfold outL; rw [if_pos q1]
          have hi : inL nn b k = (a.filter fun x => decide (x.1 = (k : Int))).map turn := by unfold inL; rw [if_pos q2]; exact hio.out k
          obtain ⟨o, ho2⟩ : ∃ o, o = a.filter fun x => decide (x.1 = (k : Int)) := ⟨_, rfl⟩
          rw [← ho2] at ho hi
          have ho1 : Hid (∀ x ∈ o, x.1 = (k : Int)) := hide (fun x hx => by rw [ho2] at hx; simpa using (List.mem_filter.1 hx).2)
          have hol : o.length ≤ 80 := by rw [ho2]; exact Nat.le_trans (List.length_filter_le _ _) hla
          clear ho2
          replace q1 := hide q1
          replace q2 := hide q2
          replace ho := hide ho
          replace hi := hide hi
          have k30 := (X3.out.ext T).cell 0 (v := .int .i64 (nn : Int)) rfl
          have k31 := (X3.out.ext T).cell 1 rfl
          have s3 := (X3.out.ext T).lt
          go_wp2_with fail
          refine (out_any nn k A3 n3 c3 a _ (r3.out.ext T) e3.out hcc3 hl3b).mono ?_
          rintro e w11 ⟨v, rfl, hO, hE⟩
          rw [ho.out] at hO
          rw [q1.out]
          replace T := T.trans (hE.mono T.size)
          clear hE
          clear k30 k31 s3
          obtain ⟨A8, c8, rfl, r8, hcc8, -⟩ := hO.rd
          obtain ⟨n8, e8⟩ : ∃ q, q = List.length o := ⟨_, rfl⟩
          rw [← e8] at hcc8 ⊢
          replace r8 := hide r8
          replace e8 := hide e8
          clear hO
          have k40 := (X4.out.ext T).cell 0 (v := .int .i64 (nn : Int)) rfl
          have k41 := (X4.out.ext T).cell 1 rfl
          have s4 := (X4.out.ext T).lt
          go_wp2_with fail
          refine (in_any nn k A4 n4 c4 b _ (r4.out.ext T) e4.out hl4b).mono ?_
          rintro e w12 ⟨v, rfl, hO, hE⟩
          rw [hi.out] at hO
          rw [q2.out]
          replace r8 := hide (r8.out.ext hE)
          replace T := T.trans (hE.mono T.size)
          clear hE
          clear k40 k41 s4
          obtain ⟨A10, c10, rfl, r10, hcc10, -⟩ := hO.rd
          obtain ⟨n10, e10⟩ : ∃ q, q = List.length (o.map turn) := ⟨_, rfl⟩
          rw [← e10] at hcc10 ⊢
          replace r10 := hide r10
          replace e10 := hide e10
          clear hO
          have hn10 : n10 = n8 := by rw [e10.out, e8.out, List.length_map]
          subst hn10
          have hl8 : n10 ≤ 80 := by have := e8.out; omega
          have T12 := hide T
          clear T
          go_wp2
          go_loopw [79] (fun j wx => ∃ l : Nat, l ≤ n10 ∧ j = .int .i64 l ∧ Ext w12 wx) (fun j _ => n10 - (intOf j).toNat)
          case atStart => exact ⟨0, Nat.zero_le _, rfl, Below.refl _ _⟩
          case round =>
            obtain ⟨l, hl, rfl, T⟩ := hrel
            by_cases hlt2 : l < n10
            · have hlt2' : (l : Int) < (n10 : Int) := by omega
              obtain ⟨b8, o8, rfl, ra⟩ := (r8.out.ext T).at_ (i := l) (by rw [← e8.out]; exact hlt2)
              obtain ⟨b10, o10, rfl, rb⟩ := (r10.out.ext T).at_ (i := l) (by rw [← e10.out]; exact hlt2)
              obtain ⟨⟨z1, z2, z3⟩, hz⟩ := get_some (xs := o) (i := l) (by rw [← e8.out]; exact hlt2)
              obtain rfl : z1 = (k : Int) := ho1.out _ (List.mem_of_getElem? hz)
              have hz2 : (o.map turn)[l]? = some (z2, (k : Int), z3) := by rw [List.getElem?_map, hz]; rfl
              obtain ⟨hx1, hx2, hx3⟩ := ra.edge hz
              obtain ⟨hy1, hy2, hy3⟩ := rb.edge hz2
              have hb8 := ra.1
              have hb10 := rb.1
              have hne : neE (z2, (k : Int), z3) (z2, (k : Int), z3) = false := by simp [neE]
              replace hz := hide hz
              replace hz2 := hide hz2
              replace ra := hide ra
              replace rb := hide rb
              go_upto_region 20 with fail
              refine wp_region_reads [(0, true), (1, true), (2, true), (3, true), (4, true), (5, true), (6, true), (7, true), (8, true), (9, true), (10, true), (11, true), (12, true), (13, true), (14, true), (15, true), (16, true)] (by kernel_rfl) (by kernel_rfl) (by kernel_rfl) (by kernel_rfl) (fun _ _ d _ _ h => by cases d <;> exact h) ?_
              iterate 17
                apply mix_q rfl rfl
                · intro W hW
                  subst hW
                  go_simp
                  try exact rfl
                simp only [Act.put, List.setIfInBounds_toArray, List.set_cons_zero, List.set_cons_succ]
              refine mix_nil ?_
              try rw [hne]
              go_wp2
              refine ⟨?_, ?_⟩
              · first
                  | exact ⟨l + 1, by omega, by go_num, T.drew⟩
                  | ((repeat apply Exists.intro); exact ⟨⟨l + 1, by omega, by go_num, T.drew⟩, rfl⟩)
              · first | (simp [intOf, lenV]; omega) | (simp [intOf]; omega) | (simp [intOf]; done)
            · have hlt2' : ¬ (l : Int) < (n10 : Int) := by omega
              have T9 := T12.out.trans (T.mono T12.out.size)
              clear T
              go_wp2
              refine ⟨?_, ?_⟩
              · first
                  | exact ⟨k + 1, by omega, by go_num, T9⟩
                  | ((repeat apply Exists.intro); exact ⟨⟨k + 1, by omega, by go_num, T9⟩, rfl⟩)
              · first | (simp [intOf, lenV]; omega) | (simp [intOf]; omega) | (simp [intOf]; done)
        · have hlt' : ¬ (k : Int) < (12 : Int) := by omega
          go_wp2
          go_ret
          exact ⟨rfl, hB.out.trans ((T6.out.trans (T.mono T6.out.size)).mono hB.out.size)⟩
    · go_wp2
      go_loopw [49] (fun i wr => ∃ k : Nat, k ≤ nn ∧ i = .int .i64 k ∧ Ext w6 wr) (fun i _ => nn - (intOf i).toNat)
      case atStart => exact ⟨0, Nat.zero_le _, rfl, T10.out⟩
      case round =>
        clear T k30 k31 s3
        obtain ⟨k, hk, rfl, T⟩ := hrel
        by_cases hlt : k < nn
        · have hlt' : (k : Int) < (nn : Int) := by omega
          have q1 := ask1 hr.out (v := (k : Int)) ⟨by omega, by omega⟩
          have q2 := ask1 hrb.out (v := (k : Int)) ⟨by omega, by omega⟩
          have ho : outL nn a k = a.filter fun x => decide (x.1 = (k : Int)) := by unfold outL; rw [if_pos q1]
          have hi : inL nn b k = (a.filter fun x => decide (x.1 = (k : Int))).map turn := by unfold inL; rw [if_pos q2]; exact hio.out k
          obtain ⟨o, ho2⟩ : ∃ o, o = a.filter fun x => decide (x.1 = (k : Int)) := ⟨_, rfl⟩
          rw [← ho2] at ho hi
          have ho1 : Hid (∀ x ∈ o, x.1 = (k : Int)) := hide (fun x hx => by rw [ho2] at hx; simpa using (List.mem_filter.1 hx).2)
          have hol : o.length ≤ 80 := by rw [ho2]; exact Nat.le_trans (List.length_filter_le _ _) hla
          clear ho2
          replace q1 := hide q1
          replace q2 := hide q2
          replace ho := hide ho
          replace hi := hide hi
          have k30 := (X3.out.ext T).cell 0 (v := .int .i64 (nn : Int)) rfl
          have k31 := (X3.out.ext T).cell 1 rfl
          have s3 := (X3.out.ext T).lt
          go_wp2_with fail
          refine (out_any nn k A3 n3 c3 a _ (r3.out.ext T) e3.out hcc3 hl3b).mono ?_
          rintro e w11 ⟨v, rfl, hO, hE⟩
          rw [ho.out] at hO
          rw [q1.out]
          replace T := T.trans (hE.mono T.size)
          clear hE
          clear k30 k31 s3
          obtain ⟨A8, c8, rfl, r8, hcc8, -⟩ := hO.rd
          obtain ⟨n8, e8⟩ : ∃ q, q = List.length o := ⟨_, rfl⟩
          rw [← e8] at hcc8 ⊢
          replace r8 := hide r8
          replace e8 := hide e8
          clear hO
          have k40 := (X4.out.ext T).cell 0 (v := .int .i64 (nn : Int)) rfl
          have k41 := (X4.out.ext T).cell 1 rfl
          have s4 := (X4.out.ext T).lt
          go_wp2_with fail
          refine (in_any nn k A4 n4 c4 b _ (r4.out.ext T) e4.out hl4b).mono ?_
          rintro e w12 ⟨v, rfl, hO, hE⟩
          rw [hi.out] at hO
          rw [q2.out]
          replace r8 := hide (r8.out.ext hE)
          replace T := T.trans (hE.mono T.size)
          clear hE
          clear k40 k41 s4
          obtain ⟨A10, c10, rfl, r10, hcc10, -⟩ := hO.rd
          obtain ⟨n10, e10⟩ : ∃ q, q = List.length (o.map turn) := ⟨_, rfl⟩
          rw [← e10] at hcc10 ⊢
          replace r10 := hide r10
          replace e10 := hide e10
          clear hO
          have hn10 : n10 = n8 := by rw [e10.out, e8.out, List.length_map]
          subst hn10
          have hl8 : n10 ≤ 80 := by have := e8.out; omega
          have T12 := hide T
          clear T
          go_wp2
          go_loopw [79] (fun j wx => ∃ l : Nat, l ≤ n10 ∧ j = .int .i64 l ∧ Ext w12 wx) (fun j _ => n10 - (intOf j).toNat)
          case atStart => exact ⟨0, Nat.zero_le _, rfl, Below.refl _ _⟩
          case round =>
            obtain ⟨l, hl, rfl, T⟩ := hrel
            by_cases hlt2 : l < n10
            · have hlt2' : (l : Int) < (n10 : Int) := by omega
              obtain ⟨b8, o8, rfl, ra⟩ := (r8.out.ext T).at_ (i := l) (by rw [← e8.out]; exact hlt2)
              obtain ⟨b10, o10, rfl, rb⟩ := (r10.out.ext T).at_ (i := l) (by rw [← e10.out]; exact hlt2)
              obtain ⟨⟨z1, z2, z3⟩, hz⟩ := get_some (xs := o) (i := l) (by rw [← e8.out]; exact hlt2)
              obtain rfl : z1 = (k : Int) := ho1.out _ (List.mem_of_getElem? hz)
              have hz2 : (o.map turn)[l]? = some (z2, (k : Int), z3) := by rw [List.getElem?_map, hz]; rfl
              obtain ⟨hx1, hx2, hx3⟩ := ra.edge hz
              obtain ⟨hy1, hy2, hy3⟩ := rb.edge hz2
              have hb8 := ra.1
              have hb10 := rb.1
              have hne : neE (z2, (k : Int), z3) (z2, (k : Int), z3) = false := by simp [neE]
              replace hz := hide hz
              replace hz2 := hide hz2
              replace ra := hide ra
              replace rb := hide rb
              go_upto_region 20 with fail
              refine wp_region_reads [(0, true), (1, true), (2, true), (3, true), (4, true), (5, true), (6, true), (7, true), (8, true), (9, true), (10, true), (11, true), (12, true), (13, true), (14, true), (15, true), (16, true)] (by kernel_rfl) (by kernel_rfl) (by kernel_rfl) (by kernel_rfl) (fun _ _ d _ _ h => by cases d <;> exact h) ?_
              iterate 17
                apply mix_q rfl rfl
                · intro W hW
                  subst hW
                  go_simp
                  try exact rfl
                simp only [Act.put, List.setIfInBounds_toArray, List.set_cons_zero, List.set_cons_succ]
              refine mix_nil ?_
              try rw [hne]
              go_wp2
              refine ⟨?_, ?_⟩
              · first
                  | exact ⟨l + 1, by omega, by go_num, T.drew⟩
                  | ((repeat apply Exists.intro); exact ⟨⟨l + 1, by omega, by go_num, T.drew⟩, rfl⟩)
              · first | (simp [intOf, lenV]; omega) | (simp [intOf]; omega) | (simp [intOf]; done)
            · have hlt2' : ¬ (l : Int) < (n10 : Int) := by omega
              have T9 := T12.out.trans (T.mono T12.out.size)
              clear T
              go_wp2
              refine ⟨?_, ?_⟩
              · first
                  | exact ⟨k + 1, by omega, by go_num, T9⟩
                  | ((repeat apply Exists.intro); exact ⟨⟨k + 1, by omega, by go_num, T9⟩, rfl⟩)
              · first | (simp [intOf, lenV]; omega) | (simp [intOf]; omega) | (simp [intOf]; done)
        · have hlt' : ¬ (k : Int) < (nn : Int) := by omega
          go_wp2
          go_ret
          exact ⟨rfl, hB.out.trans ((T6.out.trans (T.mono T6.out.size)).mono hB.out.size)⟩
end Go.Proofs.Ytoihankkldafoaa
