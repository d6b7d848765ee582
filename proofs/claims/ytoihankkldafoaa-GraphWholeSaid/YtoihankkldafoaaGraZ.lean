/- GraphParts: the walk. -/
import Derived.Test.YtoihankkldafoaaGraX
import Derived.Test.YtoihankkldafoaaGraY
import Derived.Test.YtoihankkldafoaaFlt
namespace Go.Proofs.Ytoihankkldafoaa
open Go.RowKit

set_option maxHeartbeats 1000000 in
theorem part1_any (v a b c : Int) (g : Nat) (w : World) (hb : g < w.heap.size) (hc : w.cell? ⟨g, 0, none⟩ = some (.int .i64 v)) :
    Calls Try.prog 35 #[.agg #[.int .i64 a, .int .i64 b, .int .i64 c], .pointer (some ⟨g, 0, none⟩)] w fun e w' => e = .returned (.bool (decide (c < v))) ∧ Ext w w' := by
  go_enter Try.func35, Try.ntmps35
  go_upto_region 1 with fail
  obtain ⟨w1, hw1⟩ : ∃ x, x = w.alloc (.cells #[.int .i64 a, .int .i64 b, .int .i64 c] 35) := ⟨_, rfl⟩
  rw [← hw1]
  have hE : Ext w w1 := by rw [hw1]; exact (Below.refl _ _).alloc (Nat.le_refl _) _
  have X6 : BoxN w1 w.heap.size 35 #[.int .i64 a, .int .i64 b, .int .i64 c] := by rw [hw1]; exact BoxN.new _ _ _
  clear hw1
  have hc' := below_cell hE hb hc
  have hb' := Nat.lt_of_lt_of_le hb hE.size
  obtain ⟨p6, hp6⟩ : ∃ b, b = w.heap.size := ⟨_, rfl⟩
  rw [← hp6] at X6 ⊢
  clear hp6
  have k62 := X6.cell 2 (v := .int .i64 c) rfl
  have s6 := X6.lt
  go_wp2
  go_ret
  exact ⟨rfl, hE⟩
theorem enter_part1 (args : Array Value) (w : World) : (callFunc 35 args).run Try.prog w = .ok (.enter 35 args) w := enters_of Try.func35 (by kernel_rfl) rfl args w
set_option maxHeartbeats 1000000 in
theorem part2_any (v a b c : Int) (g : Nat) (w : World) (hb : g < w.heap.size) (hc : w.cell? ⟨g, 0, none⟩ = some (.int .i64 v)) :
    Calls Try.prog 36 #[.agg #[.int .i64 a, .int .i64 b, .int .i64 c], .pointer (some ⟨g, 0, none⟩)] w fun e w' => e = .returned (.bool (decide (v ≤ c))) ∧ Ext w w' := by
  go_enter Try.func36, Try.ntmps36
  go_upto_region 1 with fail
  obtain ⟨w1, hw1⟩ : ∃ x, x = w.alloc (.cells #[.int .i64 a, .int .i64 b, .int .i64 c] 35) := ⟨_, rfl⟩
  rw [← hw1]
  have hE : Ext w w1 := by rw [hw1]; exact (Below.refl _ _).alloc (Nat.le_refl _) _
  have X6 : BoxN w1 w.heap.size 35 #[.int .i64 a, .int .i64 b, .int .i64 c] := by rw [hw1]; exact BoxN.new _ _ _
  clear hw1
  have hc' := below_cell hE hb hc
  have hb' := Nat.lt_of_lt_of_le hb hE.size
  obtain ⟨p6, hp6⟩ : ∃ b, b = w.heap.size := ⟨_, rfl⟩
  rw [← hp6] at X6 ⊢
  clear hp6
  have k62 := X6.cell 2 (v := .int .i64 c) rfl
  have s6 := X6.lt
  go_wp2
  go_ret
  exact ⟨rfl, hE⟩
theorem enter_part2 (args : Array Value) (w : World) : (callFunc 36 args).run Try.prog w = .ok (.enter 36 args) w := enters_of Try.func36 (by kernel_rfl) rfl args w
set_option maxHeartbeats 1000000 in
theorem part3_any (a b c : Int) (w : World) :
    Calls Try.prog 37 #[.agg #[.int .i64 a, .int .i64 b, .int .i64 c]] w fun e w' => e = .returned (.bool true) ∧ Ext w w' := by
  go_enter Try.func37, Try.ntmps37
  go_wp2
  go_ret
  exact ⟨rfl, (Below.refl _ _).alloc (Nat.le_refl _) _⟩
theorem enter_part3 (args : Array Value) (w : World) : (callFunc 37 args).run Try.prog w = .ok (.enter 37 args) w := enters_of Try.func37 (by kernel_rfl) rfl args w
/-! ### Plainly -/
theorem part_right {n : Int} {a : List (Int × Int × Int)} (h : rightG n a = true) (p : Int × Int × Int → Bool) : rightG n (a.filter p) = true := by
  obtain ⟨h1, h2, h3, h4, h5⟩ := (rightG_iff n a).1 h
  exact (rightG_iff n _).2 ⟨h1, h2, Nat.le_trans (List.length_filter_le _ _) h3, fun x hx => h4 x (List.mem_filter.1 hx).1, List.Pairwise.filter _ h5⟩
theorem part_ok {n : Int} {a b : List (Int × Int × Int)} (h : rightG n a = true) (hb : ∀ x ∈ b, x ∈ a) : okOf n b = true := by
  obtain ⟨h1, h2, h3, h4, h5⟩ := (rightG_iff n a).1 h
  unfold okOf
  rw [decide_eq_true h1, decide_eq_true h2, List.all_eq_true.2 (fun x hx => h4 x (hb x hx))]; rfl
theorem part_of {a b : List (Int × Int × Int)} (h : Strict a) (hb : ∀ z, z ∈ b ↔ z ∈ a) : ofE b = a := strict_ext (ofE_strict _) h fun z => by rw [mem_ofE, hb]
theorem part_len (a : List (Int × Int × Int)) (v : Int) : (a.filter fun x => decide (x.2.2 < v)).length + (a.filter fun x => decide (v ≤ x.2.2)).length = a.length := by
  induction a with
  | nil => rfl
  | cons x a ih =>
    rw [List.filter_cons, List.filter_cons]
    by_cases h : x.2.2 < v
    · rw [if_pos (by simpa using h), if_neg (by simp; omega), List.length_cons, List.length_cons]; omega
    · rw [if_neg (by simpa using h), if_pos (by simp; omega), List.length_cons, List.length_cons]; omega
theorem LRow.ext {w w' : World} {A : Option Addr} {L : List LArg} (h : LRow w A L) (hE : Ext w w') : LRow w' A L :=
  ⟨h.1.imp id (fun ⟨b, off, e, hb, hc⟩ => ⟨b, off, e, Nat.lt_of_lt_of_le hb hE.size, fun i s hs => ((bcell hE).1 b _ hb).trans (hc i s hs)⟩), fun s hs => (h.2 s hs).ext hE⟩
theorem lrow2 (w : World) (A1 A2 : Option Addr) (n1 c1 n2 c2 : Nat) (xs ys : List (Int × Int × Int)) (h1 : Rd edgeE w.heap.size w A1 xs) (hn1 : n1 = xs.length) (hl1 : xs.length ≤ 20000) (h2 : Rd edgeE w.heap.size w A2 ys) (hn2 : n2 = ys.length) (hl2 : ys.length ≤ 20000) :
    LRow (w.alloc (.cells #[.slice A1 n1 c1, .slice A2 n2 c2] 22)) (some ⟨w.heap.size, 0, none⟩) [((A1, n1, c1), xs), ((A2, n2, c2), ys)] := by
  have hE : Ext w (w.alloc (.cells #[.slice A1 n1 c1, .slice A2 n2 c2] 22)) := (Below.refl _ _).alloc (Nat.le_refl _) _
  refine ⟨.inr ⟨w.heap.size, 0, rfl, by simp, fun i s hs => ?_⟩, fun s hs => ?_⟩
  · have hB := BoxN.new w 22 #[.slice A1 n1 c1, .slice A2 n2 c2]
    match i, hs with
    | 0, hs => simp at hs; subst hs; exact hB.cell 0 rfl
    | 1, hs => simp at hs; subst hs; exact hB.cell 1 rfl
  · simp only [List.mem_cons, List.not_mem_nil, or_false] at hs
    rcases hs with rfl | rfl
    · exact ⟨h1.ext hE, hn1, hl1⟩
    · exact ⟨h2.ext hE, hn2, hl2⟩
set_option maxRecDepth 100000 in
set_option maxHeartbeats 8000000 in
theorem graphParts_any (n kind : Int) (A : Option Addr) (m c : Nat) (xs : List (Int × Int × Int)) (w : World) (hm : m = xs.length) (hmc : m ≤ c) (h : Rd edgeE w.heap.size w A xs) :
    Calls Try.prog 8 #[.agg #[.int .i64 n, .slice A m c], .int .i64 kind] w fun e w' => e = .returned (.bool true) ∧ Ext w w' := by
  replace h := hide h
  replace hm := hide hm
  go_enter Try.func8, Try.ntmps8
  go_upto_region 1 with fail
  obtain ⟨w0, hw0⟩ : ∃ w0, w0 = (w.alloc (.cells #[.int .i64 n, .slice A m c] 24)).alloc (.cells #[.int .i64 kind] 3) := ⟨_, rfl⟩
  rw [← hw0]
  have T : Ext w w0 := by rw [hw0]; exact ((Below.refl _ _).alloc (Nat.le_refl _) _).alloc (by simp) _
  have X2 : Hid (BoxG w0 w.heap.size n A m c) := hide (by rw [hw0]; exact (BoxN.new w _ _).alloc _)
  have X3 : Hid (BoxN w0 (w.heap.size + 1) 3 #[.int .i64 kind]) := hide (by
    rw [hw0]
    have := BoxN.new (w.alloc (.cells #[.int .i64 n, .slice A m c] 24)) 3 #[.int .i64 kind]
    rw [World.size_alloc] at this
    exact this)
  clear hw0
  obtain ⟨p2, hp⟩ : ∃ q, q = w.heap.size := ⟨_, rfl⟩
  rw [← hp] at X2 X3 ⊢
  obtain ⟨p3, hp2⟩ : ∃ q, q = p2 + 1 := ⟨_, rfl⟩
  rw [← hp2] at X3 ⊢
  clear hp hp2
  go_wp2_with fail
  refine (wakes_any _).mono ?_
  rintro e w1 ⟨rfl, hE⟩
  replace T := T.trans (hE.mono T.size)
  replace X2 := hide (X2.out.ext hE)
  replace X3 := hide (X3.out.ext hE)
  clear hE
  have k20 := X2.out.cell 0 (v := .int .i64 n) rfl
  have k21 := X2.out.cell 1 rfl
  have s2 := X2.out.lt
  have hla : (xs.take 80).length ≤ 80 := by rw [List.length_take]; omega
  obtain ⟨a, ha⟩ : ∃ a, a = xs.take 80 := ⟨_, rfl⟩
  rw [← ha] at hla
  replace ha := hide ha
  go_wp2_with fail
  refine (fair_any n A m c xs _ (h.out.ext T) hm.out hmc).mono ?_
  rintro e w2 ⟨v, rfl, hO, hE⟩
  rw [← ha.out] at hO
  replace T := T.trans (hE.mono T.size)
  replace X2 := hide (X2.out.ext hE)
  replace X3 := hide (X3.out.ext hE)
  clear hE
  clear k20 k21 s2
  obtain ⟨A5, c5, rfl, r5, hcc5, -⟩ := hO.rd
  obtain ⟨n5, e5⟩ : ∃ q, q = List.length a := ⟨_, rfl⟩
  rw [← e5] at hcc5 ⊢
  replace r5 := hide r5
  replace e5 := hide e5
  clear hO
  have hl5 : n5 ≤ 80 := by have := e5.out; omega
  have hl5b : n5 ≤ 1000000 := by omega
  go_upto_region 4 with fail
  obtain ⟨w4, hw⟩ : ∃ q, q = World.alloc w2 (.cells #[.int .i64 n, .slice A5 n5 c5] 24) := ⟨_, rfl⟩
  rw [← hw]
  have hE : Ext w2 w4 := by rw [hw]; exact (Below.refl _ _).alloc (Nat.le_refl _) _
  have X5 : Hid (BoxG w4 (World.heap w2).size n A5 n5 c5) := hide (by rw [hw]; exact BoxN.new _ _ _)
  clear hw
  obtain ⟨p5, hp⟩ : ∃ q, q = (World.heap w2).size := ⟨_, rfl⟩
  rw [← hp] at X5 ⊢
  clear hp
  replace r5 := hide (r5.out.ext hE)
  replace X3 := hide (X3.out.ext hE)
  have hB := hide (T.trans (hE.mono T.size))
  clear hE T X2
  have T : Ext w4 w4 := Below.refl _ _
  have q30 := X3.out.cell 0 (v := .int .i64 kind) rfl
  have q3s := X3.out.lt
  have H1 := hide (show HoldP 35 #[.pointer (some ⟨p3, 0, none⟩)] a (fun x => decide (x.2.2 < kind)) w4 from ⟨enter_part1, fun a b c W _ hW => part1_any kind a b c p3 W (Nat.lt_of_lt_of_le q3s hW.size) (below_cell hW q3s q30)⟩)
  have H2 := hide (show HoldP 36 #[.pointer (some ⟨p3, 0, none⟩)] a (fun x => decide (kind ≤ x.2.2)) w4 from ⟨enter_part2, fun a b c W _ hW => part2_any kind a b c p3 W (Nat.lt_of_lt_of_le q3s hW.size) (below_cell hW q3s q30)⟩)
  have H3 := hide (show HoldP 37 #[] a (fun _ => true) w4 from ⟨enter_part3, fun a b c W _ _ => part3_any a b c W⟩)
  clear q30 q3s X3
  obtain ⟨y1, hy1⟩ : ∃ q, q = gN n a := ⟨_, rfl⟩
  obtain ⟨y2, hy2⟩ : ∃ q, q = chkG n a := ⟨_, rfl⟩
  replace hy1 := hide hy1
  replace hy2 := hide hy2
  obtain ⟨la, hla⟩ : ∃ q, q = gL n a (a.filter (fun x => decide (x.2.2 < kind))) := ⟨_, rfl⟩
  replace hla := hide hla
  have k50 := (X5.out.ext T).cell 0 (v := .int .i64 n) rfl
  have k51 := (X5.out.ext T).cell 1 rfl
  have s5 := (X5.out.ext T).lt
  go_wp2_with fail
  refine (filter_any n A5 n5 c5 a _ _ (fun x => decide (x.2.2 < kind)) _ (r5.out.ext T) e5.out hl5b ⟨H1.out.1, fun a b c W hx hW => H1.out.2 a b c W hx (T.trans (hW.mono T.size))⟩).mono ?_
  rintro e w5 ⟨v, rfl, hO, hE⟩
  rw [← hla.out] at hO
  rw [← hy1.out, ← hy2.out]
  replace T := T.trans (hE.mono T.size)
  clear hE
  clear k50 k51 s5
  obtain ⟨A6, c6, rfl, r6, hcc6, -⟩ := hO.rd
  obtain ⟨n6, e6⟩ : ∃ q, q = List.length la := ⟨_, rfl⟩
  rw [← e6] at hcc6 ⊢
  replace r6 := hide r6
  replace e6 := hide e6
  clear hO
  go_upto_region 5 with fail
  obtain ⟨w6, hw⟩ : ∃ q, q = World.alloc w5 (.cells #[.int .i64 y1, .slice A6 n6 c6] 24) := ⟨_, rfl⟩
  rw [← hw]
  have hE : Ext w5 w6 := by rw [hw]; exact (Below.refl _ _).alloc (Nat.le_refl _) _
  have X6 : Hid (BoxG w6 (World.heap w5).size y1 A6 n6 c6) := hide (by rw [hw]; exact BoxN.new _ _ _)
  clear hw
  obtain ⟨p6, hp⟩ : ∃ q, q = (World.heap w5).size := ⟨_, rfl⟩
  rw [← hp] at X6 ⊢
  clear hp
  replace r6 := hide (r6.out.ext hE)
  replace T := T.trans (hE.mono T.size)
  clear hE
  obtain ⟨lb, hlb⟩ : ∃ q, q = gL n a (a.filter (fun x => decide (kind ≤ x.2.2))) := ⟨_, rfl⟩
  replace hlb := hide hlb
  have k50 := (X5.out.ext T).cell 0 (v := .int .i64 n) rfl
  have k51 := (X5.out.ext T).cell 1 rfl
  have s5 := (X5.out.ext T).lt
  go_wp2_with fail
  refine (filter_any n A5 n5 c5 a _ _ (fun x => decide (kind ≤ x.2.2)) _ (r5.out.ext T) e5.out hl5b ⟨H2.out.1, fun a b c W hx hW => H2.out.2 a b c W hx (T.trans (hW.mono T.size))⟩).mono ?_
  rintro e w7 ⟨v, rfl, hO, hE⟩
  rw [← hlb.out] at hO
  rw [← hy1.out, ← hy2.out]
  replace r6 := hide (r6.out.ext hE)
  replace X6 := hide (X6.out.ext hE)
  replace T := T.trans (hE.mono T.size)
  clear hE
  clear k50 k51 s5
  obtain ⟨A8, c8, rfl, r8, hcc8, -⟩ := hO.rd
  obtain ⟨n8, e8⟩ : ∃ q, q = List.length lb := ⟨_, rfl⟩
  rw [← e8] at hcc8 ⊢
  replace r8 := hide r8
  replace e8 := hide e8
  clear hO
  go_upto_region 6 with fail
  obtain ⟨w8, hw⟩ : ∃ q, q = World.alloc w7 (.cells #[.int .i64 y1, .slice A8 n8 c8] 24) := ⟨_, rfl⟩
  rw [← hw]
  have hE : Ext w7 w8 := by rw [hw]; exact (Below.refl _ _).alloc (Nat.le_refl _) _
  have X8 : Hid (BoxG w8 (World.heap w7).size y1 A8 n8 c8) := hide (by rw [hw]; exact BoxN.new _ _ _)
  clear hw
  obtain ⟨p8, hp⟩ : ∃ q, q = (World.heap w7).size := ⟨_, rfl⟩
  rw [← hp] at X8 ⊢
  clear hp
  replace r8 := hide (r8.out.ext hE)
  replace r6 := hide (r6.out.ext hE)
  replace X6 := hide (X6.out.ext hE)
  replace T := T.trans (hE.mono T.size)
  clear hE
  obtain ⟨lc, hlc⟩ : ∃ q, q = gL n a (a.filter (fun _ => true)) := ⟨_, rfl⟩
  replace hlc := hide hlc
  have k50 := (X5.out.ext T).cell 0 (v := .int .i64 n) rfl
  have k51 := (X5.out.ext T).cell 1 rfl
  have s5 := (X5.out.ext T).lt
  go_wp2_with fail
  refine (filter_any n A5 n5 c5 a _ _ (fun _ => true) _ (r5.out.ext T) e5.out hl5b ⟨H3.out.1, fun a b c W hx hW => H3.out.2 a b c W hx (T.trans (hW.mono T.size))⟩).mono ?_
  rintro e w9 ⟨v, rfl, hO, hE⟩
  rw [← hlc.out] at hO
  rw [← hy1.out, ← hy2.out]
  replace r6 := hide (r6.out.ext hE)
  replace X6 := hide (X6.out.ext hE)
  replace r8 := hide (r8.out.ext hE)
  replace X8 := hide (X8.out.ext hE)
  replace T := T.trans (hE.mono T.size)
  clear hE
  clear k50 k51 s5
  obtain ⟨A10, c10, rfl, r10, hcc10, -⟩ := hO.rd
  obtain ⟨n10, e10⟩ : ∃ q, q = List.length lc := ⟨_, rfl⟩
  rw [← e10] at hcc10 ⊢
  replace r10 := hide r10
  replace e10 := hide e10
  clear hO
  go_upto_region 7 with fail
  obtain ⟨w10, hw⟩ : ∃ q, q = World.alloc w9 (.cells #[.int .i64 y1, .slice A10 n10 c10] 24) := ⟨_, rfl⟩
  rw [← hw]
  have hE : Ext w9 w10 := by rw [hw]; exact (Below.refl _ _).alloc (Nat.le_refl _) _
  have X10 : Hid (BoxG w10 (World.heap w9).size y1 A10 n10 c10) := hide (by rw [hw]; exact BoxN.new _ _ _)
  clear hw
  obtain ⟨p10, hp⟩ : ∃ q, q = (World.heap w9).size := ⟨_, rfl⟩
  rw [← hp] at X10 ⊢
  clear hp
  replace r10 := hide (r10.out.ext hE)
  replace r6 := hide (r6.out.ext hE)
  replace X6 := hide (X6.out.ext hE)
  replace r8 := hide (r8.out.ext hE)
  replace X8 := hide (X8.out.ext hE)
  replace T := T.trans (hE.mono T.size)
  clear hE
  clear H1 H2 H3
  cases hr : rightG n a with
  | false =>
    obtain rfl : y2 = 150 := hy2.out.trans (chkG_no hr)
    have hch := hide (chkG_no hr)
    replace hr := hide hr
    have k50 := (X5.out.ext T).cell 0 (v := .int .i64 n) rfl
    have k51 := (X5.out.ext T).cell 1 rfl
    have s5 := (X5.out.ext T).lt
    go_wp2_with fail
    refine (check_any n A5 n5 c5 a _ (r5.out.ext T) e5.out hl5b).mono ?_
    rintro e w11 ⟨rfl, hE⟩
    rw [hch.out]
    replace T := T.trans (hE.mono T.size)
    clear hE
    clear k50 k51 s5
    go_wp2
    go_ret
    exact ⟨rfl, hB.out.trans (T.mono hB.out.size)⟩
  | true =>
    obtain ⟨v1, v2, v3⟩ := g_yes (l := a.filter fun x => decide (x.2.2 < kind)) hr
    obtain ⟨-, -, v4⟩ := g_yes (l := a.filter fun x => decide (kind ≤ x.2.2)) hr
    obtain ⟨-, -, v5⟩ := g_yes (l := a.filter fun _ => true) hr
    obtain rfl : y2 = 0 := hy2.out.trans v2
    obtain rfl : n = y1 := (hy1.out.trans v1).symm
    replace v3 := hla.out.trans v3
    replace v4 := hlb.out.trans v4
    replace v5 := hlc.out.trans v5
    rw [List.filter_eq_self.2 (fun _ _ => rfl)] at v5
    obtain ⟨-, -, -, -, g5⟩ := (rightG_iff n a).1 hr
    have m1 : ∀ z, z ∈ lb ++ la ↔ z ∈ a := by
      intro z
      rw [v3, v4, List.mem_append, List.mem_filter, List.mem_filter]
      constructor
      · rintro (hz | hz)
        · exact hz.1
        · exact hz.1
      · intro hz
        by_cases hk : kind ≤ z.2.2
        · exact .inl ⟨hz, by simpa using hk⟩
        · exact .inr ⟨hz, by simp; omega⟩
    have hok := part_ok hr (fun x hx => (m1 x).1 hx)
    obtain ⟨o1, o2, o3⟩ := of_yes hok
    rw [part_of g5 m1] at o3
    have hra : chkG n la = 0 := chkG_yes (by rw [v3]; exact part_right hr _)
    have hlen := part_len a kind
    rw [← v3, ← v4] at hlen
    subst v5
    have hl6 : n6 ≤ 80 := by have := e6.out; omega
    have hl8 : n8 ≤ 80 := by have := e8.out; omega
    have hla80 : la.length ≤ 80 := by have := e6.out; omega
    have hlb80 : lb.length ≤ 80 := by have := e8.out; omega
    have hsum : (n6 : Int) + (n8 : Int) = (n5 : Int) := by have h1 := e6.out; have h2 := e8.out; have h3 := e5.out; omega
    have hwrap : IntKind.i64.wrap ((n6 : Int) + (n8 : Int)) = (n5 : Int) := by rw [hsum]; exact IntWalk.i64_in _ (by omega)
    replace hlen := hide hlen
    replace o1 := hide o1
    replace o2 := hide o2
    replace o3 := hide o3
    replace hok := hide hok
    replace hra := hide hra
    replace hr := hide hr
    clear v1 v2 v3 v4 g5 m1 hsum
    have k50 := (X5.out.ext T).cell 0 (v := .int .i64 n) rfl
    have k51 := (X5.out.ext T).cell 1 rfl
    have s5 := (X5.out.ext T).lt
    have k60 := X6.out.cell 0 (v := .int .i64 n) rfl
    have k61 := X6.out.cell 1 rfl
    have s6 := X6.out.lt
    have k80 := X8.out.cell 0 (v := .int .i64 n) rfl
    have k81 := X8.out.cell 1 rfl
    have s8 := X8.out.lt
    have T10 := hide T
    clear T
    go_upto_region 9 with fail
    refine wp_region_flt [(some 12, 12)] (fun _ => .cells #[.int .i64 0, .slice none 0 0] 24) [(0, true), (1, true), (2, true), (3, true), (4, true), (5, true), (6, false), (7, false), (8, false), (9, true), (10, true), (11, true)] [(13, false), (14, true)] (fun _ => undef) (by kernel_rfl) (by kernel_rfl) (by kernel_rfl) (by kernel_rfl) (by kernel_rfl) (fun _ _ d _ _ h => by cases d <;> exact h) ?_ rfl ?_
    · refine floats_of (by kernel_rfl) ?_ (by decide) (by decide) (by decide)
      intro p hp
      simp only [List.mem_cons, List.not_mem_nil, or_false] at hp
      obtain rfl := hp
      intro K a w h
      refine flt_lay rfl rfl ?_
      go_simp
      exact h
    obtain ⟨wd, hwd⟩ : ∃ x, x = w10.drew := ⟨_, rfl⟩
    rw [← hwd]
    have hEd : Ext w10 wd := by rw [hwd]; exact (Below.refl _ _).drew
    clear hwd
    replace X5 := hide ((X5.out.ext T10.out).ext hEd)
    replace X6 := hide (X6.out.ext hEd)
    replace X8 := hide (X8.out.ext hEd)
    replace X10 := hide (X10.out.ext hEd)
    replace r5 := hide ((r5.out.ext T10.out).ext hEd)
    replace r6 := hide (r6.out.ext hEd)
    replace r8 := hide (r8.out.ext hEd)
    replace r10 := hide (r10.out.ext hEd)
    replace hB := hide (hB.out.trans ((T10.out.trans (hEd.mono T10.out.size)).mono hB.out.size))
    clear hEd T10 k50 k51 s5 k60 k61 s6 k80 k81 s8
    have T : Ext wd wd := Below.refl _ _
    have k50 := (X5.out.ext T).cell 0 (v := .int .i64 n) rfl
    have k51 := (X5.out.ext T).cell 1 rfl
    have s5 := (X5.out.ext T).lt
    have k60 := (X6.out.ext T).cell 0 (v := .int .i64 n) rfl
    have k61 := (X6.out.ext T).cell 1 rfl
    have s6 := (X6.out.ext T).lt
    have k80 := (X8.out.ext T).cell 0 (v := .int .i64 n) rfl
    have k81 := (X8.out.ext T).cell 1 rfl
    have s8 := (X8.out.ext T).lt
    iterate 6
      apply flt_q rfl rfl
      · intro x W hW
        have hcW : ∀ (b o : Nat), b < (World.heap wd).size → W.cell? ⟨b, o, none⟩ = World.cell? wd ⟨b, o, none⟩ := (bcell hW).1
        simp only [puts, Act.put, List.setIfInBounds_toArray, List.set_cons_zero, List.set_cons_succ]
        go_simp
        try exact rfl
      simp only [Act.put, List.setIfInBounds_toArray, List.set_cons_zero, List.set_cons_succ]
    refine flt_w rfl rfl fun W x hE K hK => ?_
    simp only [puts, Act.put, List.setIfInBounds_toArray, List.set_cons_zero, List.set_cons_succ]
    go_simp
    replace T := T.trans (hE.mono T.size)
    have hLR := hide (lrow2 W A8 A6 n8 c8 n6 c6 lb la (r8.out.ext T) e8.out (by omega) (r6.out.ext T) e6.out (by omega))
    have hEW : Ext W (W.alloc (.cells #[.slice A8 n8 c8, .slice A6 n6 c6] 22)) := (Below.refl _ _).alloc (Nat.le_refl _) _
    obtain ⟨w11, hw11⟩ : ∃ q, q = W.alloc (.cells #[.slice A8 n8 c8, .slice A6 n6 c6] 22) := ⟨_, rfl⟩
    rw [← hw11] at hLR hEW ⊢
    clear hw11
    obtain ⟨bR, hbR⟩ : ∃ q, q = W.heap.size := ⟨_, rfl⟩
    rw [← hbR] at hLR ⊢
    clear hbR
    refine hK _ _ hEW (by simp only [puts, Act.put, List.setIfInBounds_toArray, List.set_cons_zero, List.set_cons_succ]) ?_
    clear hK K
    replace T := T.trans (hEW.mono T.size)
    clear hE hEW
    try simp only [Act.put, List.setIfInBounds_toArray, List.set_cons_zero, List.set_cons_succ]
    refine flt_w rfl rfl fun W2 x2 hE K hK => ?_
    simp only [puts, Act.put, List.setIfInBounds_toArray, List.set_cons_zero, List.set_cons_succ]
    go_simp
    replace T := T.trans (hE.mono T.size)
    refine (concat_any _ 2 2 _ _ (hLR.out.ext hE) rfl (by decide)).mono ?_
    rintro e w12 ⟨v, rfl, hO, hE2⟩
    have hfl : flatI [((A8, n8, c8), lb), ((A6, n6, c6), la)] = lb ++ la := by simp [flatI]
    rw [hfl] at hO
    refine hK _ _ hE2 (by simp only [puts, Act.put, List.setIfInBounds_toArray, List.set_cons_zero, List.set_cons_succ]) ?_
    clear hK K
    replace T := T.trans (hE2.mono T.size)
    try simp only [Act.put, List.setIfInBounds_toArray, List.set_cons_zero, List.set_cons_succ]
    clear hE hE2 hLR hfl
    obtain ⟨A59, c59, rfl, r59, hcc59, -⟩ := hO.rd
    obtain ⟨n59, e59⟩ : ∃ q, q = List.length (lb ++ la) := ⟨_, rfl⟩
    rw [← e59] at hcc59 ⊢
    replace r59 := hide r59
    replace e59 := hide e59
    clear hO
    have hl59 : n59 ≤ 40000 := by have h1 := e59.out; rw [List.length_append] at h1; omega
    refine flt_w rfl rfl fun W3 x3 hE K hK => ?_
    simp only [puts, Act.put, List.setIfInBounds_toArray, List.set_cons_zero, List.set_cons_succ]
    go_simp
    replace T := T.trans (hE.mono T.size)
    refine (Of_any n A59 n59 c59 (lb ++ la) _ (r59.out.ext hE) e59.out hcc59 hl59).mono ?_
    rintro e w13 ⟨v, rfl, hO, hE2⟩
    rw [o3.out] at hO
    rw [o1.out, o2.out]
    refine hK _ _ hE2 (by simp only [puts, Act.put, List.setIfInBounds_toArray, List.set_cons_zero, List.set_cons_succ]) ?_
    clear hK K
    replace T := T.trans (hE2.mono T.size)
    try simp only [Act.put, List.setIfInBounds_toArray, List.set_cons_zero, List.set_cons_succ]
    clear hE hE2 r59 e59 hl59 hcc59
    have hOw := hO.base_le (Nat.zero_le _)
    obtain ⟨A61, c61, rfl, -, hc61, -⟩ := hO.rd
    obtain ⟨n61, e61⟩ : ∃ q, q = lc.length := ⟨_, rfl⟩
    rw [← e61] at hc61 hOw ⊢
    replace e61 := hide e61
    replace hOw := hide hOw
    clear hO
    iterate 3
      apply flt_q rfl rfl
      · intro x W hW
        have hcW : ∀ (b o : Nat), b < (World.heap wd).size → W.cell? ⟨b, o, none⟩ = World.cell? wd ⟨b, o, none⟩ := (bcell hW).1
        simp only [puts, Act.put, List.setIfInBounds_toArray, List.set_cons_zero, List.set_cons_succ]
        go_simp
        try exact rfl
      simp only [Act.put, List.setIfInBounds_toArray, List.set_cons_zero, List.set_cons_succ]
    refine flt_end fun W x hE hA => ?_
    simp only [puts, Act.put, List.setIfInBounds_toArray, List.set_cons_zero, List.set_cons_succ]
    obtain ⟨p12, e1, X12, l12⟩ := hA.1 12 (by simp)
    rw [e1]
    replace X12 : BoxN W p12 24 #[.int .i64 0, .slice none 0 0] := X12
    replace l12 : wd.heap.size ≤ p12 := l12
    replace hOw := hide (hOw.out.ext hE)
    replace T := T.trans (hE.mono T.size)
    clear hA hE e1 k50 k51 s5 k60 k61 s6 k80 k81 s8
    have f0 := X12.free 0
    have f1 := X12.free 1
    have q0 := X12.cell 0 (v := .int .i64 0) rfl
    have q1 := X12.cell 1 (v := .slice none 0 0) rfl
    have sq := X12.lt
    refine mix_w rfl rfl (fun K hK => ?_)
    go_simp
    refine hK _ _ ((T.setCell (p := ⟨p12, 0, none⟩) l12 _).setCell (p := ⟨p12, 1, none⟩) l12 _) ?_
    clear hK K
    try simp only [Act.put, List.setIfInBounds_toArray, List.set_cons_zero, List.set_cons_succ]
    obtain ⟨w14, hw14⟩ : ∃ q, q = (W.setCell ⟨p12, 0, none⟩ (.int .i64 n)).setCell ⟨p12, 1, none⟩ (.slice A61 n61 c61) := ⟨_, rfl⟩
    rw [← hw14]
    have Y12 : Hid (BoxN w14 p12 24 #[.int .i64 n, .slice A61 n61 c61]) := hide (by rw [hw14]; exact (X12.set 0 (.int .i64 n)).set 1 (.slice A61 n61 c61))
    have r61 : Hid (Rd edgeE w14.heap.size w14 A61 lc) := hide (by rw [hw14]; exact rdO ((hOw.out.setN X12 (by decide) 0 (.int .i64 n)).setN (X12.set 0 (.int .i64 n)) (by decide) 1 (.slice A61 n61 c61)))
    replace T : Ext wd w14 := by rw [hw14]; exact (T.setCell (p := ⟨p12, 0, none⟩) l12 _).setCell (p := ⟨p12, 1, none⟩) l12 _
    clear hw14 f0 f1 q0 q1 sq X12 hOw l12
    iterate 1
      apply mix_q rfl rfl
      · intro W hW
        have hcW := (bcell hW).1
        go_simp
        try exact rfl
      simp only [Act.put, List.setIfInBounds_toArray, List.set_cons_zero, List.set_cons_succ]
    refine mix_nil ?_
    have T14 := hide (Below.refl w14.heap.size w14 : Ext w14 w14)
    have k120 := Y12.out.cell 0 (v := .int .i64 n) rfl
    have k121 := Y12.out.cell 1 rfl
    have s12 := Y12.out.lt
    have k50 := (X5.out.ext T).cell 0 (v := .int .i64 n) rfl
    have k51 := (X5.out.ext T).cell 1 rfl
    have s5 := (X5.out.ext T).lt
    go_wp2_with fail
    refine (same_any n n A61 A5 n61 c61 n5 c5 lc lc _ r61.out e61.out (r5.out.ext T) e5.out (by have := e61.out; omega)).mono ?_
    rintro e w15 ⟨rfl, hE⟩
    rw [sameG_self]
    replace T := T.trans (hE.mono T.size)
    clear hE
    clear k50 k51 s5
    clear k120 k121 s12 Y12 r61
    have k50 := (X5.out.ext T).cell 0 (v := .int .i64 n) rfl
    have k51 := (X5.out.ext T).cell 1 rfl
    have s5 := (X5.out.ext T).lt
    have k100 := (X10.out.ext T).cell 0 (v := .int .i64 n) rfl
    have k101 := (X10.out.ext T).cell 1 rfl
    have s10 := (X10.out.ext T).lt
    go_wp2_with fail
    refine (same_any n n A10 A5 n10 c10 n5 c5 lc lc _ (r10.out.ext T) e10.out (r5.out.ext T) e5.out (by have := e10.out; omega)).mono ?_
    rintro e w16 ⟨rfl, hE⟩
    rw [sameG_self]
    replace T := T.trans (hE.mono T.size)
    clear hE
    clear k50 k51 s5 k100 k101 s10
    have k60 := (X6.out.ext T).cell 0 (v := .int .i64 n) rfl
    have k61 := (X6.out.ext T).cell 1 rfl
    have s6 := (X6.out.ext T).lt
    go_wp2_with fail
    refine (check_any n A6 n6 c6 la _ (r6.out.ext T) e6.out (by omega)).mono ?_
    rintro e w17 ⟨rfl, hE⟩
    rw [hra.out]
    replace T := T.trans (hE.mono T.size)
    clear hE
    clear k60 k61 s6
    have k50 := (X5.out.ext T).cell 0 (v := .int .i64 n) rfl
    have k51 := (X5.out.ext T).cell 1 rfl
    have s5 := (X5.out.ext T).lt
    have k60 := (X6.out.ext T).cell 0 (v := .int .i64 n) rfl
    have k61 := (X6.out.ext T).cell 1 rfl
    have s6 := (X6.out.ext T).lt
    have k80 := (X8.out.ext T).cell 0 (v := .int .i64 n) rfl
    have k81 := (X8.out.ext T).cell 1 rfl
    have s8 := (X8.out.ext T).lt
    go_wp2
    go_ret
    exact ⟨rfl, hB.out.trans (T.mono hB.out.size)⟩
end Go.Proofs.Ytoihankkldafoaa
