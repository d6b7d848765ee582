/- GraphTells: the walk. -/
import Derived.Test.YtoihankkldafoaaGraKi
import Derived.Test.YtoihankkldafoaaFlt
namespace Go.Proofs.Ytoihankkldafoaa
open Go.RowKit

/-! ### A row of edges of the call's own whose third cells are written -/
def KRow (w : World) (base : Nat) (A : Option Addr) (n : Nat) : Prop := 0 < n → ∃ g off cur e, A = some ⟨g, off, none⟩ ∧ base ≤ g ∧ w.heap[g]? = some (.cells cur e (0, 0)) ∧ ∀ i, i < n → ∃ x, cur[off + i * 3 + 2]? = some (.int .i64 x)
theorem kRow_of {e : TypeId} {base : Nat} {w : World} {A : Option Addr} {n c : Nat} {xs : List (Int × Int × Int)} (h : Own edgeE e base w (.slice A n c) xs) : KRow w base A n := by
  intro hn
  obtain ⟨A', c', heq, hr, -, -⟩ := h.rd
  obtain ⟨hl, h2⟩ := h
  injection heq with q1 q2 q3
  subst q1
  rcases h2 with ⟨h1, h2⟩ | ⟨g, cap, cur, h1, hb, hg, hnc, hcm, hsz, hcur⟩
  · injection h1 with h3 h4 h5
    omega
  · injection h1 with h3 h4 h5
    subst h3
    refine ⟨g, 0, cur, e, rfl, hb, hg, fun i hi => ?_⟩
    obtain ⟨⟨x, y, z⟩, hx⟩ := get_some (xs := xs) (i := i) (by omega)
    obtain ⟨b, off, hbo, ra⟩ := hr.at_ (i := i) (by omega)
    injection hbo with hbo
    injection hbo with hb_ ho_
    subst hb_ ho_
    have hc := (ra.edge hx).2.2
    unfold World.cell? at hc
    simp only [hg] at hc
    exact ⟨z, hc⟩
theorem KRow.at_ {base : Nat} {w : World} {A : Option Addr} {n : Nat} (h : KRow w base A n) {i : Nat} (hi : i < n) :
    ∃ g off x, A = some ⟨g, off, none⟩ ∧ base ≤ g ∧ g < w.heap.size ∧ w.cell? ⟨g, off + i * 3 + 2, none⟩ = some (.int .i64 x) ∧ w.frozen? ⟨g, off + i * 3 + 2, none⟩ = false ∧ ∀ y, KRow (w.setCell ⟨g, off + i * 3 + 2, none⟩ (.int .i64 y)) base (some ⟨g, off, none⟩) n := by
  obtain ⟨g, off, cur, e, rfl, hb, hg, hc⟩ := h (by omega)
  obtain ⟨x, hx⟩ := hc i hi
  refine ⟨g, off, x, rfl, hb, ?_, ?_, ?_, fun y _ => ⟨g, off, cur.setIfInBounds (off + i * 3 + 2) (.int .i64 y), e, rfl, hb, ?_, fun j hj => ?_⟩⟩
  · rcases Nat.lt_or_ge g w.heap.size with hlt | hge
    · exact hlt
    · rw [Array.getElem?_eq_none hge] at hg; cases hg
  · unfold World.cell?; simp only [hg]; exact hx
  · unfold World.frozen?; simp only [hg]; simp
  · show (w.heap.modify g _)[g]? = _
    rw [Array.getElem?_modify, if_pos rfl, hg]
    rfl
  · rw [Array.getElem?_setIfInBounds]
    by_cases hij : off + i * 3 + 2 = off + j * 3 + 2
    · have hlt := (Array.getElem?_eq_some_iff.1 hx).1
      rw [if_pos hij, if_pos hlt]
      exact ⟨y, rfl⟩
    · rw [if_neg hij]
      exact hc j hj
theorem KRow.ext {base : Nat} {w w' : World} {A : Option Addr} {n : Nat} (h : KRow w base A n) (hE : Ext w w') : KRow w' base A n := by
  intro hn
  obtain ⟨g, off, cur, e, rfl, hb, hg, hc⟩ := h hn
  have hlt : g < w.heap.size := by
    rcases Nat.lt_or_ge g w.heap.size with hlt | hge
    · exact hlt
    · rw [Array.getElem?_eq_none hge] at hg; cases hg
  exact ⟨g, off, cur, e, rfl, hb, (hE.block g hlt).trans hg, hc⟩
/-! ### Plainly -/
theorem ask_no {n : Int} {a : List (Int × Int × Int)} (h : rightG n a = false) (vs : List Int) : askE n a vs = 150 := if_neg (by rw [h]; decide)
theorem ask_yes {n : Int} {a : List (Int × Int × Int)} (h : rightG n a = true) {vs : List Int} (hv : vs.all (nodeIn n) = true) : askE n a vs = 0 := by unfold askE; rw [if_pos h, if_pos hv]
theorem ask_out {n : Int} {a : List (Int × Int × Int)} (h : rightG n a = true) {vs : List Int} (hv : vs.all (nodeIn n) = false) : askE n a vs = 2 := by unfold askE; rw [if_pos h, if_neg (by rw [hv]; decide)]
theorem nodeIn_yes {n v : Int} (h1 : 0 ≤ v) (h2 : v < n) : nodeIn n v = true := by unfold nodeIn; rw [decide_eq_true h1, decide_eq_true h2]; rfl
theorem nodeIn_no1 {n v : Int} (h1 : ¬ 0 ≤ v) : nodeIn n v = false := by unfold nodeIn; rw [decide_eq_false h1]; rfl
theorem nodeIn_no2 {n v : Int} (h2 : ¬ v < n) : nodeIn n v = false := by unfold nodeIn; rw [decide_eq_false h2, Bool.and_false]
theorem in1 {n v : Int} {b : Bool} (h : nodeIn n v = b) : [v].all (nodeIn n) = b := by simp [h]
theorem in2 {n v u : Int} {b c : Bool} (h : nodeIn n v = b) (h' : nodeIn n u = c) : [v, u].all (nodeIn n) = (b && c) := by simp [h, h']
theorem outL_no {n : Int} {a : List (Int × Int × Int)} {v : Int} (h : askE n a [v] ≠ 0) : outL n a v = [] := if_neg h
theorem inL_no {n : Int} {a : List (Int × Int × Int)} {v : Int} (h : askE n a [v] ≠ 0) : inL n a v = [] := if_neg h
theorem kindL_no {n : Int} {a : List (Int × Int × Int)} {u v : Int} (h : askE n a [u, v] ≠ 0) : kindL n a u v = [] := if_neg h
theorem outL_yes {n : Int} {a : List (Int × Int × Int)} {v : Int} (h : askE n a [v] = 0) : outL n a v = a.filter fun x => decide (x.1 = v) := if_pos h
theorem inL_yes {n : Int} {a : List (Int × Int × Int)} {v : Int} (h : askE n a [v] = 0) : inL n a v = a.filter fun x => decide (x.2.1 = v) := if_pos h
theorem kindL_yes {n : Int} {a : List (Int × Int × Int)} {u v : Int} (h : askE n a [u, v] = 0) : kindL n a u v = (a.filter fun x => decide (x.1 = u) && decide (x.2.1 = v)).map fun x => x.2.2 := if_pos h
theorem outL_len {n : Int} (a : List (Int × Int × Int)) (v : Int) : (outL n a v).length ≤ a.length := by
  unfold outL; split
  · exact List.length_filter_le _ _
  · simp
theorem inL_len {n : Int} (a : List (Int × Int × Int)) (v : Int) : (inL n a v).length ≤ a.length := by
  unfold inL; split
  · exact List.length_filter_le _ _
  · simp
theorem kindL_len {n : Int} (a : List (Int × Int × Int)) (u v : Int) : (kindL n a u v).length ≤ a.length := by
  unfold kindL; split
  · rw [List.length_map]; exact List.length_filter_le _ _
  · simp
set_option maxRecDepth 100000 in
set_option maxHeartbeats 8000000 in
theorem graphTells_any (n : Int) (A A1 : Option Addr) (m c m1 c1 : Nat) (xs : List (Int × Int × Int)) (ys : List Int) (w : World) (hm : m = xs.length) (hmc : m ≤ c) (h : Rd edgeE w.heap.size w A xs) (hm1 : m1 = ys.length) (hmc1 : m1 ≤ c1) (h1 : Rd intE w.heap.size w A1 ys) :
    Calls Try.prog 4 #[.agg #[.int .i64 n, .slice A m c], .slice A1 m1 c1] w fun e w' => e = .returned (.bool true) ∧ Ext w w' := by
  replace h1 := hide h1
  replace hm1 := hide hm1
  replace h := hide h
  replace hm := hide hm
  go_enter Try.func4, Try.ntmps4
  go_upto_region 1 with fail
  obtain ⟨w0, hw0⟩ : ∃ w0, w0 = w.alloc (.cells #[.int .i64 n, .slice A m c] 24) := ⟨_, rfl⟩
  rw [← hw0]
  have T : Ext w w0 := by rw [hw0]; exact (Below.refl _ _).alloc (Nat.le_refl _) _
  have X2 : Hid (BoxG w0 w.heap.size n A m c) := hide (by rw [hw0]; exact BoxN.new w _ _)
  clear hw0
  obtain ⟨p2, hp⟩ : ∃ q, q = w.heap.size := ⟨_, rfl⟩
  rw [← hp] at X2 ⊢
  clear hp
  go_wp2_with fail
  refine (wakes_any _).mono ?_
  rintro e w1 ⟨rfl, hE⟩
  replace T := T.trans (hE.mono T.size)
  replace X2 := hide (X2.out.ext hE)
  clear hE
  have k20 := X2.out.cell 0 (v := .int .i64 n) rfl
  have k21 := X2.out.cell 1 rfl
  have s2 := X2.out.lt
  have hla : (xs.take 80).length ≤ 80 := by rw [List.length_take]; omega
  obtain ⟨a, ha⟩ : ∃ a, a = xs.take 80 := ⟨_, rfl⟩
  rw [← ha] at hla
  replace ha := hide ha
  go_wp2_with fail
  refine (fair_any n A m c xs _ (h.out.ext T) hm.out hmc).mono ?_
  rintro e w2 ⟨v, rfl, hO, hE⟩
  rw [← ha.out] at hO
  replace T := T.trans (hE.mono T.size)
  replace X2 := hide (X2.out.ext hE)
  clear hE
  clear k20 k21 s2
  obtain ⟨A5, c5, rfl, r5, hcc5, -⟩ := hO.rd
  obtain ⟨n5, e5⟩ : ∃ q, q = List.length a := ⟨_, rfl⟩
  rw [← e5] at hcc5 ⊢
  replace r5 := hide r5
  replace e5 := hide e5
  clear hO
  have hl5 : n5 ≤ 80 := by have := e5.out; omega
  have hl5b : n5 ≤ 1000000 := by omega
  go_upto_region 4 with fail
  obtain ⟨w4, hw⟩ : ∃ q, q = World.alloc w2 (.cells #[.int .i64 n, .slice A5 n5 c5] 24) := ⟨_, rfl⟩
  rw [← hw]
  have hE : Ext w2 w4 := by rw [hw]; exact (Below.refl _ _).alloc (Nat.le_refl _) _
  have X5 : Hid (BoxG w4 (World.heap w2).size n A5 n5 c5) := hide (by rw [hw]; exact BoxN.new _ _ _)
  clear hw
  obtain ⟨p5, hp⟩ : ∃ q, q = (World.heap w2).size := ⟨_, rfl⟩
  rw [← hp] at X5 ⊢
  clear hp
  replace r5 := hide (r5.out.ext hE)
  replace X2 := hide (X2.out.ext hE)
  have hB := hide (T.trans (hE.mono T.size))
  clear hE T
  replace h := hide (h.out.ext hB.out)
  replace h1 := hide (h1.out.ext hB.out)
  have T : Ext w4 w4 := Below.refl _ _
  have k50 := (X5.out.ext T).cell 0 (v := .int .i64 n) rfl
  have k51 := (X5.out.ext T).cell 1 rfl
  have s5 := (X5.out.ext T).lt
  obtain ⟨rt, hrt⟩ : ∃ q, q = rightG n a := ⟨_, rfl⟩
  replace hrt := hide hrt
  obtain ⟨y2, hy2⟩ : ∃ q, q = chkG n a := ⟨_, rfl⟩
  replace hy2 := hide hy2
  obtain ⟨y3, hy3⟩ : ∃ q, q = startL n a := ⟨_, rfl⟩
  replace hy3 := hide hy3
  go_wp2_with fail
  refine (refRight_any n A5 n5 c5 a _ (r5.out.ext T) e5.out hl5b).mono ?_
  rintro e w5 ⟨rfl, hE⟩
  rw [← hrt.out]
  replace T := T.trans (hE.mono T.size)
  clear hE
  clear k50 k51 s5
  have k50 := (X5.out.ext T).cell 0 (v := .int .i64 n) rfl
  have k51 := (X5.out.ext T).cell 1 rfl
  have s5 := (X5.out.ext T).lt
  go_wp2_with fail
  refine (starts_any n A5 n5 c5 a _ (r5.out.ext T) e5.out hl5b).mono ?_
  rintro e w6 ⟨v, rfl, hO, hE⟩
  rw [← hy3.out] at hO
  rw [← hy2.out]
  replace T := T.trans (hE.mono T.size)
  clear hE
  clear k50 k51 s5
  obtain ⟨A7, c7, rfl, r7, hcc7, -⟩ := hO.rd
  obtain ⟨n7, e7⟩ : ∃ q, q = List.length y3 := ⟨_, rfl⟩
  rw [← e7] at hcc7 ⊢
  replace r7 := hide r7
  replace e7 := hide e7
  clear hO
  have k50 := (X5.out.ext T).cell 0 (v := .int .i64 n) rfl
  have k51 := (X5.out.ext T).cell 1 rfl
  have s5 := (X5.out.ext T).lt
  go_upto_if 37 with fail
  go_cut [53] from 37 to 52 (fun _ wx => Ext w4 wx)
  case first =>
    cases rt with
    | false =>
      obtain rfl : y2 = 150 := hy2.out.trans (chkG_no hrt.out.symm)
      obtain rfl : y3 = [] := hy3.out.trans (if_neg (by rw [← hrt.out]; decide))
      obtain rfl : n7 = 0 := e7.out
      go_wp2
      go_meet
      case rel => exact T
    | true =>
      obtain rfl : y2 = 0 := hy2.out.trans (chkG_yes hrt.out.symm)
      obtain ⟨g1, g2, -, -, -⟩ := (rightG_iff n a).1 hrt.out.symm
      obtain ⟨nn, hnn⟩ : ∃ nn : Nat, n = nn := ⟨n.toNat, by omega⟩
      subst hnn
      have hst : Hid (starts a (nn + 1) = y3) := hide (by rw [hy3.out]; unfold startL; rw [if_pos hrt.out.symm]; simp)
      go_wp2_with fail
      refine (refStarts_any nn (by omega) A5 n5 c5 a _ (r5.out.ext T) e5.out (by omega)).mono ?_
      rintro e w7 ⟨v, rfl, hO, hE⟩
      rw [hst.out] at hO
      replace r7 := hide (r7.out.ext hE)
      replace T := T.trans (hE.mono T.size)
      clear hE
      clear k50 k51 s5
      obtain ⟨A50, c50, rfl, r50, hcc50, -⟩ := hO.rd
      obtain ⟨n50, e50⟩ : ∃ q, q = List.length y3 := ⟨_, rfl⟩
      rw [← e50] at hcc50 ⊢
      replace r50 := hide r50
      replace e50 := hide e50
      clear hO
      have hl7 : n7 ≤ 1000000 := by have h1 := e7.out; rw [← hst.out, starts_len] at h1; omega
      go_wp2_with fail
      refine (equalI_any A7 A50 n7 c7 n50 c50 y3 y3 _ r7.out r50.out e7.out e50.out hl7).mono ?_
      rintro e w8 ⟨rfl, hE⟩
      rw [show decide (y3 = y3) = true from decide_eq_true rfl]
      replace T := T.trans (hE.mono T.size)
      clear hE
      go_wp2
      go_meet
      case rel => exact T
  case rest =>
    clear T
    clear k50 k51 s5
    have T := hcut
    clear hcut r7 e7 hcc7
    obtain ⟨q, hq⟩ : ∃ q, q = min m1 10 := ⟨_, rfl⟩
    have z1 : min (m1 : Int) 10 = q := by omega
    have z2 : q ≤ m1 := by omega
    have z3 : (q : Int) ≤ c1 := by omega
    have z4 : q ≤ c1 := by omega
    have z5 : q ≤ 10 := by omega
    have hlq : q = (ys.take q).length := by rw [List.length_take, ← hm1.out]; omega
    obtain ⟨l, hl⟩ : ∃ l, l = ys.take q := ⟨_, rfl⟩
    have rq := hide (h1.out.take q)
    rw [← hl] at hlq rq
    replace hq := hide hq
    replace hlq := hide hlq
    clear hl
    go_upto_region 11 with fail
    go_cut [1] from 54 to 58 (fun s1 wx => s1 = .slice A1 q c1 ∧ Ext w4 wx)
    case first =>
      by_cases h10 : (10 : Int) < (m1 : Int)
      · obtain rfl : q = 10 := by omega
        have z6 : (10 : Int) ≤ (c1 : Int) := by omega
        have z7 : 10 ≤ c1 := by omega
        clear z1 z2 z3 z4
        go_wp2
        go_meet
        case rel => exact ⟨rfl, T⟩
      · obtain rfl : q = m1 := by omega
        have z6 : (q : Int) ≤ (c1 : Int) := by omega
        clear z1
        go_wp2
        go_meet
        case rel => exact ⟨rfl, T⟩
    case rest =>
      obtain ⟨rfl, T⟩ := hcut
      go_wp2
      go_loopw [61] (fun i wr => ∃ k : Nat, k ≤ q ∧ i = .int .i64 k ∧ Ext w4 wr) (fun i _ => q - (intOf i).toNat)
      case atStart => exact ⟨0, Nat.zero_le _, rfl, T⟩
      case round =>
        clear T z1 z2 z3 z4
        obtain ⟨k, hk, rfl, T⟩ := hrel
        by_cases hlt : k < q
        · have hlt' : (k : Int) < (q : Int) := by omega
          obtain ⟨b1, o1, rfl, ra⟩ := (rq.out.ext T).at_ (i := k) (by rw [← hlq.out]; exact hlt)
          obtain ⟨v, hv⟩ := get_some (xs := l) (i := k) (by rw [← hlq.out]; exact hlt)
          have hvc := ra.int hv
          have hb1 := ra.1
          replace ra := hide ra
          clear hv
          have hsz := hide T.size
          obtain ⟨qv, hqv⟩ : ∃ q, q = askE n a [v] := ⟨_, rfl⟩
          obtain ⟨o, ho⟩ : ∃ q, q = outL n a v := ⟨_, rfl⟩
          obtain ⟨oi, hoi⟩ : ∃ q, q = inL n a v := ⟨_, rfl⟩
          have hol : o.length ≤ 80 := by rw [ho]; exact Nat.le_trans (outL_len a v) hla
          have hil : oi.length ≤ 80 := by rw [hoi]; exact Nat.le_trans (inL_len a v) hla
          replace hqv := hide hqv
          replace ho := hide ho
          replace hoi := hide hoi
          have k50 := (X5.out.ext T).cell 0 (v := .int .i64 n) rfl
          have k51 := (X5.out.ext T).cell 1 rfl
          have s5 := (X5.out.ext T).lt
          go_wp2_with fail
          refine (out_any n v A5 n5 c5 a _ (r5.out.ext T) e5.out hcc5 hl5b).mono ?_
          rintro e w8 ⟨u, rfl, hO, hE⟩
          rw [← ho.out] at hO
          rw [← hqv.out]
          replace T := T.trans (hE.mono T.size)
          clear hE
          clear k50 k51 s5
          obtain ⟨A11, c11, rfl, -, hcc11, -⟩ := hO.rd
          obtain ⟨n11, e11⟩ : ∃ q, q = List.length o := ⟨_, rfl⟩
          rw [← e11] at hcc11 ⊢
          have O11 := hO.base_le hsz.out
          rw [← e11] at O11
          replace O11 := hide O11
          replace e11 := hide e11
          clear hO
          have k50 := (X5.out.ext T).cell 0 (v := .int .i64 n) rfl
          have k51 := (X5.out.ext T).cell 1 rfl
          have s5 := (X5.out.ext T).lt
          go_wp2_with fail
          refine (in_any n v A5 n5 c5 a _ (r5.out.ext T) e5.out hl5b).mono ?_
          rintro e w9 ⟨u, rfl, hO, hE⟩
          rw [← hoi.out] at hO
          rw [← hqv.out]
          replace T := T.trans (hE.mono T.size)
          replace O11 := hide (O11.out.ext hE)
          clear hE
          clear k50 k51 s5
          obtain ⟨A13, c13, rfl, r13, hcc13, -⟩ := hO.rd
          obtain ⟨n13, e13⟩ : ∃ q, q = List.length oi := ⟨_, rfl⟩
          rw [← e13] at hcc13 ⊢
          replace r13 := hide r13
          replace e13 := hide e13
          clear hO
          have T9 := hide T
          have k50 := (X5.out.ext T).cell 0 (v := .int .i64 n) rfl
          have k51 := (X5.out.ext T).cell 1 rfl
          have s5 := (X5.out.ext T).lt
          have hT9 := Below.refl w9.heap.size w9
          replace T := hT9
          clear hT9
          go_upto_if 77 with fail
          go_cut [15, 16, 17] from 77 to 91 (fun s15 s16 s17 wx => ∃ A15 d15 A16 d16, s15 = .slice A15 n11 d15 ∧ s16 = .slice A16 n13 d16 ∧ s17 = .int .i64 qv ∧ Hid (Rd edgeE wx.heap.size wx A15 o) ∧ Hid (Rd edgeE wx.heap.size wx A16 oi) ∧ Ext w9 wx)
          case first =>
            cases rt with
            | false =>
              have hask := ask_no hrt.out.symm [v]
              obtain rfl : qv = 150 := hqv.out.trans hask
              have hne : askE n a [v] ≠ 0 := by rw [hask]; decide
              clear hask
              obtain rfl : o = [] := ho.out.trans (outL_no hne)
              obtain rfl : oi = [] := hoi.out.trans (inL_no hne)
              replace hne := hide hne
              obtain rfl : n11 = 0 := e11.out
              obtain rfl : n13 = 0 := e13.out
              go_wp2
              go_meet
              case rel => exact ⟨_, _, _, _, rfl, rfl, rfl, hide Rd.nil_, hide Rd.nil_, T⟩
            | true =>
              by_cases hv0 : 0 ≤ v
              · by_cases hv1 : v < n
                · have hask := ask_yes hrt.out.symm (in1 (nodeIn_yes hv0 hv1))
                  obtain rfl : qv = 0 := hqv.out.trans hask
                  have ho2 := hide (ho.out.trans (outL_yes hask))
                  have hoi2 := hide (hoi.out.trans (inL_yes hask))
                  clear hask
                  have Q5 := hide (r5.out.ext T9.out)
                  go_upto_region 22 with fail
                  replace T := (Below.refl w9.heap.size w9).drew
                  refine wp_region_mix (fun W => Below w9.heap.size w9 W) [(0, true), (1, true), (3, true), (4, true), (2, false), (5, false), (6, true), (7, true), (8, true)] (by kernel_rfl) (by kernel_rfl) (by kernel_rfl) (by kernel_rfl) (fun _ _ d _ _ h => by cases d <;> exact h) ?_ ?_
                  · exact T
                  obtain ⟨wl, hwh⟩ : ∃ x, x = w9.drew := ⟨_, rfl⟩
                  rw [← hwh] at T ⊢
                  clear hwh
                  iterate 4
                    apply mix_q rfl rfl
                    · intro W hW
                      have hcW := (bcell hW).1
                      go_simp
                      try exact rfl
                    simp only [Act.put, List.setIfInBounds_toArray, List.set_cons_zero, List.set_cons_succ]
                  refine mix_w rfl rfl (fun K hK => ?_)
                  go_simp
                  refine (refOut_any n v A5 n5 c5 a _ (Q5.out.ext T) e5.out (by omega)).mono ?_
                  rintro e w10 ⟨u, rfl, hO, hE⟩
                  refine hK _ _ (T.trans (hE.mono T.size)) ?_
                  clear hK K
                  try simp only [Act.put, List.setIfInBounds_toArray, List.set_cons_zero, List.set_cons_succ]
                  replace T := T.trans (hE.mono T.size)
                  rw [← ho2.out] at hO
                  clear hE
                  obtain ⟨A15, d15, rfl, r15, -, -⟩ := hO.rd
                  rw [← e11.out]
                  replace r15 := hide r15
                  clear hO
                  refine mix_w rfl rfl (fun K hK => ?_)
                  go_simp
                  refine (refIn_any n v A5 n5 c5 a _ (Q5.out.ext T) e5.out (by omega)).mono ?_
                  rintro e w11 ⟨u, rfl, hO, hE⟩
                  refine hK _ _ (T.trans (hE.mono T.size)) ?_
                  clear hK K
                  try simp only [Act.put, List.setIfInBounds_toArray, List.set_cons_zero, List.set_cons_succ]
                  replace T := T.trans (hE.mono T.size)
                  rw [← hoi2.out] at hO
                  replace r15 := hide (r15.out.ext hE)
                  clear hE
                  obtain ⟨A16, d16, rfl, r16, -, -⟩ := hO.rd
                  rw [← e13.out]
                  replace r16 := hide r16
                  clear hO
                  iterate 3
                    apply mix_q rfl rfl
                    · intro W hW
                      have hcW := (bcell hW).1
                      go_simp
                      try exact rfl
                    simp only [Act.put, List.setIfInBounds_toArray, List.set_cons_zero, List.set_cons_succ]
                  refine mix_nil ?_
                  go_wp2
                  go_meet
                  case rel => exact ⟨_, _, _, _, rfl, rfl, rfl, r15, r16, T⟩
                · have hask := ask_out hrt.out.symm (in1 (nodeIn_no2 hv1))
                  obtain rfl : qv = 2 := hqv.out.trans hask
                  have hne : askE n a [v] ≠ 0 := by rw [hask]; decide
                  clear hask
                  obtain rfl : o = [] := ho.out.trans (outL_no hne)
                  obtain rfl : oi = [] := hoi.out.trans (inL_no hne)
                  replace hne := hide hne
                  obtain rfl : n11 = 0 := e11.out
                  obtain rfl : n13 = 0 := e13.out
                  go_wp2
                  go_meet
                  case rel => exact ⟨_, _, _, _, rfl, rfl, rfl, hide Rd.nil_, hide Rd.nil_, T⟩
              · have hask := ask_out hrt.out.symm (in1 (nodeIn_no1 hv0))
                obtain rfl : qv = 2 := hqv.out.trans hask
                have hne : askE n a [v] ≠ 0 := by rw [hask]; decide
                clear hask
                obtain rfl : o = [] := ho.out.trans (outL_no hne)
                obtain rfl : oi = [] := hoi.out.trans (inL_no hne)
                replace hne := hide hne
                obtain rfl : n11 = 0 := e11.out
                obtain rfl : n13 = 0 := e13.out
                go_wp2
                go_meet
                case rel => exact ⟨_, _, _, _, rfl, rfl, rfl, hide Rd.nil_, hide Rd.nil_, T⟩
          case rest =>
            clear T
            clear k50 k51 s5
            obtain ⟨A15, d15, A16, d16, rfl, rfl, rfl, r15, r16, hE⟩ := hcut
            have T := T9.out.trans (hE.mono T9.out.size)
            replace O11 := hide (O11.out.ext hE)
            replace r13 := hide (r13.out.ext hE)
            have r11 := hide (rdO O11.out)
            have hqq : (qv != qv) = false := by simp
            clear hE T9
            go_wp2_with fail
            refine (equal_Edge A11 A15 n11 c11 n11 d15 o o _ e11.out r11.out e11.out r15.out (by have := e11.out; omega)).mono ?_
            rintro e w12 ⟨rfl, hE⟩
            try rw [show decide (o = o) = true from decide_eq_true rfl]
            replace T := T.trans (hE.mono T.size)
            replace O11 := hide (O11.out.ext hE)
            replace r13 := hide (r13.out.ext hE)
            replace r16 := hide (r16.out.ext hE)
            clear hE r11 r15
            go_wp2_with fail
            refine (equal_Edge A13 A16 n13 c13 n13 d16 oi oi _ e13.out r13.out e13.out r16.out (by have := e13.out; omega)).mono ?_
            rintro e w13 ⟨rfl, hE⟩
            try rw [show decide (oi = oi) = true from decide_eq_true rfl]
            replace T := T.trans (hE.mono T.size)
            have K11 := hide (kRow_of (O11.out.ext hE))
            clear hE r13 r16 hqq O11
            have T13 := hide T
            go_wp2
            go_loopw [114] (fun i wx => ∃ j : Nat, j ≤ n11 ∧ i = .int .i64 j ∧ Hid (KRow wx w4.heap.size A11 n11) ∧ Ext w4 wx) (fun i _ => n11 - (intOf i).toNat)
            case atStart => exact ⟨0, Nat.zero_le _, rfl, K11, T⟩
            case round =>
              clear T K11
              obtain ⟨j, hj, rfl, K11, T⟩ := hrel
              by_cases hlt2 : j < n11
              · have hlt2' : (j : Int) < (n11 : Int) := by omega
                obtain ⟨g11, o11, x, rfl, hbg, hgs, hcx, hfx, hK11⟩ := K11.out.at_ hlt2
                have hn11 : n11 ≤ 80 := by have := e11.out; omega
                replace hK11 := hide hK11
                clear K11
                go_wp2
                refine ⟨?_, ?_⟩
                · first
                    | exact ⟨j + 1, by omega, by go_num, hide (hK11.out _), T.setCell (p := ⟨g11, _, none⟩) hbg _⟩
                    | ((repeat apply Exists.intro); exact ⟨⟨j + 1, by omega, by go_num, hide (hK11.out _), T.setCell (p := ⟨g11, _, none⟩) hbg _⟩, rfl⟩)
                · first | (simp [intOf, lenV]; omega) | (simp [intOf]; omega) | (simp [intOf]; done)
              · have hlt2' : ¬ (j : Int) < (n11 : Int) := by omega
                clear K11 T13
                have T13 := hide T
                go_wp2
                go_loopw [128] (fun i wx => ∃ j : Nat, j ≤ q ∧ i = .int .i64 j ∧ Ext w4 wx) (fun i _ => q - (intOf i).toNat)
                case atStart => exact ⟨0, Nat.zero_le _, rfl, T⟩
                case round =>
                  clear T
                  obtain ⟨i, hi, rfl, T⟩ := hrel
                  by_cases hlt3 : i < q
                  · have hlt3' : (i : Int) < (q : Int) := by omega
                    obtain ⟨b3, o3, hbo, ra⟩ := (rq.out.ext T).at_ (i := i) (by rw [← hlq.out]; exact hlt3)
                    injection hbo with hbo
                    injection hbo with hb_ ho_
                    subst hb_ ho_
                    obtain ⟨u, hu⟩ := get_some (xs := l) (i := i) (by rw [← hlq.out]; exact hlt3)
                    have huc := ra.int hu
                    have hb3 := ra.1
                    replace ra := hide ra
                    clear hu
                    obtain ⟨qk, hqk⟩ : ∃ q, q = askE n a [v, u] := ⟨_, rfl⟩
                    obtain ⟨ks, hks⟩ : ∃ q, q = kindL n a v u := ⟨_, rfl⟩
                    have hkl : ks.length ≤ 80 := by rw [hks]; exact Nat.le_trans (kindL_len a v u) hla
                    replace hqk := hide hqk
                    replace hks := hide hks
                    have k50 := (X5.out.ext T).cell 0 (v := .int .i64 n) rfl
                    have k51 := (X5.out.ext T).cell 1 rfl
                    have s5 := (X5.out.ext T).lt
                    go_wp2_with fail
                    refine (kinds_any n v u A5 n5 c5 a _ (r5.out.ext T) e5.out (by omega)).mono ?_
                    rintro e w14 ⟨x, rfl, hO, hE⟩
                    rw [← hks.out] at hO
                    rw [← hqk.out]
                    replace T := T.trans (hE.mono T.size)
                    clear hE
                    clear k50 k51 s5
                    obtain ⟨A21, c21, rfl, r21, hcc21, -⟩ := hO.rd
                    obtain ⟨n21, e21⟩ : ∃ q, q = List.length ks := ⟨_, rfl⟩
                    rw [← e21] at hcc21 ⊢
                    replace r21 := hide r21
                    replace e21 := hide e21
                    clear hO
                    have T14 := hide T
                    have k50 := (X5.out.ext T).cell 0 (v := .int .i64 n) rfl
                    have k51 := (X5.out.ext T).cell 1 rfl
                    have s5 := (X5.out.ext T).lt
                    have hT14 := Below.refl w14.heap.size w14
                    replace T := hT14
                    clear hT14
                    go_upto_if 141 with fail
                    go_cut [23, 24] from 141 to 153 (fun s23 s24 wx => ∃ A23 d23, s23 = .slice A23 n21 d23 ∧ s24 = .int .i64 qk ∧ Hid (Rd intE wx.heap.size wx A23 ks) ∧ Ext w14 wx)
                    case first =>
                      cases rt with
                      | false =>
                        have hask := ask_no hrt.out.symm [v, u]
                        obtain rfl : qk = 150 := hqk.out.trans hask
                        obtain rfl : qv = 150 := hqv.out.trans (ask_no hrt.out.symm [v])
                        have hne : askE n a [v, u] ≠ 0 := by rw [hask]; decide
                        clear hask
                        obtain rfl : ks = [] := hks.out.trans (kindL_no hne)
                        replace hne := hide hne
                        obtain rfl : n21 = 0 := e21.out
                        go_wp2
                        go_meet
                        case rel => exact ⟨_, _, rfl, rfl, hide Rd.nil_, T⟩
                      | true =>
                        by_cases hv0 : 0 ≤ v
                        · by_cases hv1 : v < n
                          · obtain rfl : qv = 0 := hqv.out.trans (ask_yes hrt.out.symm (in1 (nodeIn_yes hv0 hv1)))
                            by_cases hu0 : 0 ≤ u
                            · by_cases hu1 : u < n
                              · have hask := ask_yes hrt.out.symm (in2 (nodeIn_yes hv0 hv1) (nodeIn_yes hu0 hu1))
                                obtain rfl : qk = 0 := hqk.out.trans hask
                                have hks2 := hide (hks.out.trans (kindL_yes hask))
                                clear hask
                                have Q5 := hide (r5.out.ext T14.out)
                                go_wp2_with fail
                                refine (refKinds_any n v u A5 n5 c5 a _ Q5.out e5.out (by omega)).mono ?_
                                rintro e w15 ⟨x, rfl, hO, hE⟩
                                rw [← hks2.out] at hO
                                replace T := T.trans (hE.mono T.size)
                                clear hE
                                obtain ⟨A23, d23, rfl, r23, -, -⟩ := hO.rd
                                rw [← e21.out]
                                replace r23 := hide r23
                                clear hO
                                go_wp2
                                go_meet
                                case rel => exact ⟨_, _, rfl, rfl, r23, T⟩
                              · have hask := ask_out hrt.out.symm (in2 (nodeIn_yes hv0 hv1) (nodeIn_no2 hu1))
                                obtain rfl : qk = 2 := hqk.out.trans hask
                                have hne : askE n a [v, u] ≠ 0 := by rw [hask]; decide
                                clear hask
                                obtain rfl : ks = [] := hks.out.trans (kindL_no hne)
                                replace hne := hide hne
                                obtain rfl : n21 = 0 := e21.out
                                go_wp2
                                go_meet
                                case rel => exact ⟨_, _, rfl, rfl, hide Rd.nil_, T⟩
                            · have hask := ask_out hrt.out.symm (in2 (nodeIn_yes hv0 hv1) (nodeIn_no1 hu0))
                              obtain rfl : qk = 2 := hqk.out.trans hask
                              have hne : askE n a [v, u] ≠ 0 := by rw [hask]; decide
                              clear hask
                              obtain rfl : ks = [] := hks.out.trans (kindL_no hne)
                              replace hne := hide hne
                              obtain rfl : n21 = 0 := e21.out
                              go_wp2
                              go_meet
                              case rel => exact ⟨_, _, rfl, rfl, hide Rd.nil_, T⟩
                          · obtain rfl : qv = 2 := hqv.out.trans (ask_out hrt.out.symm (in1 (nodeIn_no2 hv1)))
                            have hask := ask_out hrt.out.symm (in2 (nodeIn_no2 hv1) (c := nodeIn n u) rfl)
                            obtain rfl : qk = 2 := hqk.out.trans hask
                            have hne : askE n a [v, u] ≠ 0 := by rw [hask]; decide
                            clear hask
                            obtain rfl : ks = [] := hks.out.trans (kindL_no hne)
                            replace hne := hide hne
                            obtain rfl : n21 = 0 := e21.out
                            go_wp2
                            go_meet
                            case rel => exact ⟨_, _, rfl, rfl, hide Rd.nil_, T⟩
                        · obtain rfl : qv = 2 := hqv.out.trans (ask_out hrt.out.symm (in1 (nodeIn_no1 hv0)))
                          have hask := ask_out hrt.out.symm (in2 (nodeIn_no1 hv0) (c := nodeIn n u) rfl)
                          obtain rfl : qk = 2 := hqk.out.trans hask
                          have hne : askE n a [v, u] ≠ 0 := by rw [hask]; decide
                          clear hask
                          obtain rfl : ks = [] := hks.out.trans (kindL_no hne)
                          replace hne := hide hne
                          obtain rfl : n21 = 0 := e21.out
                          go_wp2
                          go_meet
                          case rel => exact ⟨_, _, rfl, rfl, hide Rd.nil_, T⟩
                    case rest =>
                      clear T
                      clear k50 k51 s5
                      obtain ⟨A23, d23, rfl, rfl, r23, hE⟩ := hcut
                      have T := T14.out.trans (hE.mono T14.out.size)
                      replace r21 := hide (r21.out.ext hE)
                      have hqq : (qk != qk) = false := by simp
                      clear hE T14
                      go_wp2_with fail
                      refine (equalI_any A21 A23 n21 c21 n21 d23 ks ks _ r21.out r23.out e21.out e21.out (by have := e21.out; omega)).mono ?_
                      rintro e w16 ⟨rfl, hE⟩
                      rw [show decide (ks = ks) = true from decide_eq_true rfl]
                      replace T := T.trans (hE.mono T.size)
                      clear hE hqq
                      go_wp2
                      refine ⟨?_, ?_⟩
                      · first
                          | exact ⟨i + 1, by omega, by go_num, T⟩
                          | ((repeat apply Exists.intro); exact ⟨⟨i + 1, by omega, by go_num, T⟩, rfl⟩)
                      · first | (simp [intOf, lenV]; omega) | (simp [intOf]; omega) | (simp [intOf]; done)
                  · have hlt3' : ¬ (i : Int) < (q : Int) := by omega
                    go_wp2
                    refine ⟨?_, ?_⟩
                    · first
                        | exact ⟨k + 1, by omega, by go_num, T⟩
                        | ((repeat apply Exists.intro); exact ⟨⟨k + 1, by omega, by go_num, T⟩, rfl⟩)
                    · first | (simp [intOf, lenV]; omega) | (simp [intOf]; omega) | (simp [intOf]; done)
        · have hlt' : ¬ (k : Int) < (q : Int) := by omega
          have TA := hide T
          have Q5 := hide (r5.out.ext T)
          have Q := hide (h.out.ext T)
          have k50 := (X5.out.ext T).cell 0 (v := .int .i64 n) rfl
          have k51 := (X5.out.ext T).cell 1 rfl
          have s5 := (X5.out.ext T).lt
          have k20 := (X2.out.ext T).cell 0 (v := .int .i64 n) rfl
          have k21 := (X2.out.ext T).cell 1 rfl
          have s2 := (X2.out.ext T).lt
          clear T
          go_upto_region 44 with fail
          have T : Ext wr wr.drew := (Below.refl _ _).drew
          refine wp_region_mix (fun W => Below wr.heap.size wr W) [(0, true), (1, true), (2, false), (3, false), (4, true)] (by kernel_rfl) (by kernel_rfl) (by kernel_rfl) (by kernel_rfl) (fun _ _ d _ _ h => by cases d <;> exact h) ?_ ?_
          · exact T
          obtain ⟨wl, hwh⟩ : ∃ x, x = wr.drew := ⟨_, rfl⟩
          rw [← hwh] at T ⊢
          clear hwh
          iterate 2
            apply mix_q rfl rfl
            · intro W hW
              have hcW := (bcell hW).1
              go_simp
              try exact rfl
            simp only [Act.put, List.setIfInBounds_toArray, List.set_cons_zero, List.set_cons_succ]
          refine mix_w rfl rfl (fun K hK => ?_)
          go_simp
          refine (fair_any n A m c xs _ (Q.out.ext T) hm.out hmc).mono ?_
          rintro e w17 ⟨v, rfl, hO, hE⟩
          refine hK _ _ (T.trans (hE.mono T.size)) ?_
          clear hK K
          try simp only [Act.put, List.setIfInBounds_toArray, List.set_cons_zero, List.set_cons_succ]
          replace T := T.trans (hE.mono T.size)
          rw [← ha.out] at hO
          clear hE
          obtain ⟨A167, c167, rfl, r167, hcc167, -⟩ := hO.rd
          obtain ⟨n167, e167⟩ : ∃ q, q = List.length a := ⟨_, rfl⟩
          rw [← e167] at hcc167 ⊢
          replace r167 := hide r167
          replace e167 := hide e167
          clear hO
          refine mix_w rfl rfl (fun K hK => ?_)
          go_simp
          refine (refSame_any n n A5 A167 n5 c5 n167 c167 a a _ (Q5.out.ext T) e5.out r167.out e167.out hl5b).mono ?_
          rintro e w18 ⟨rfl, hE⟩
          refine hK _ _ (T.trans (hE.mono T.size)) ?_
          clear hK K
          try simp only [Act.put, List.setIfInBounds_toArray, List.set_cons_zero, List.set_cons_succ]
          replace T := T.trans (hE.mono T.size)
          rw [sameG_self]
          clear hE
          iterate 1
            apply mix_q rfl rfl
            · intro W hW
              have hcW := (bcell hW).1
              go_simp
              try exact rfl
            simp only [Act.put, List.setIfInBounds_toArray, List.set_cons_zero, List.set_cons_succ]
          refine mix_nil ?_
          go_wp2
          go_ret
          exact ⟨rfl, hB.out.trans ((TA.out.trans (T.mono TA.out.size)).mono hB.out.size)⟩
end Go.Proofs.Ytoihankkldafoaa
