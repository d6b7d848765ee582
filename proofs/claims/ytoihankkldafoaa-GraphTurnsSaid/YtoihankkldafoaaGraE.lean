/- graph.Of, Same; the document's Right, Same; fair, small. -/
import Derived.Test.YtoihankkldafoaaGraD
namespace Go.Proofs.Ytoihankkldafoaa
open Go.RowKit

theorem own_made {α : Type} (E : El α) (e : TypeId) {base : Nat} (w : World) (xs : List α) (g : Nat) (hg : w.heap.size = g) (hb : base ≤ g) (hm : xs.length ≤ maxLen) : Own E e base (w.alloc (.cells (E.row xs).toArray e)) (.slice (some ⟨g, 0, none⟩) xs.length xs.length) xs := by
  subst hg
  refine ⟨by rw [E.row_length], .inr ⟨w.heap.size, xs.length, _, rfl, hb, heap_alloc_new w _, Nat.le_refl _, hm, by simp [E.row_length], ?_⟩⟩
  simp only [List.toList_toArray]
  exact List.take_of_length_le (by rw [E.row_length]; exact Nat.le_refl _)
theorem allH_const {α : Type} (p : α → Bool) (xs : List α) : allH (fun _ x => p x) xs = xs.all p := by
  cases h : xs.all p with
  | true =>
    rw [allH_iff]
    intro i x hx
    exact List.all_eq_true.1 h x (List.mem_of_getElem? hx)
  | false =>
    obtain ⟨x, hx, hp⟩ := List.all_eq_false.1 h
    obtain ⟨i, hi⟩ := List.mem_iff_getElem?.1 hx
    exact allH_false hi (by simpa using hp)
/-- may a graph be made of these? -/
def okOf (n : Int) (xs : List (Int × Int × Int)) : Bool := (decide (0 ≤ n) && decide (n ≤ 300)) && xs.all (rightE n)
def ofN (n : Int) (xs : List (Int × Int × Int)) : Int := if okOf n xs = true then n else 0
def ofR (n : Int) (xs : List (Int × Int × Int)) : Int := if okOf n xs = true then 0 else 2
def ofL (n : Int) (xs : List (Int × Int × Int)) : List (Int × Int × Int) := if okOf n xs = true then ofE xs else []
theorem of_no {n : Int} {xs : List (Int × Int × Int)} (h : okOf n xs = false) : ofN n xs = 0 ∧ ofR n xs = 2 ∧ ofL n xs = [] := by unfold ofN ofR ofL; simp [h]
theorem of_yes {n : Int} {xs : List (Int × Int × Int)} (h : okOf n xs = true) : ofN n xs = n ∧ ofR n xs = 0 ∧ ofL n xs = ofE xs := by unfold ofN ofR ofL; simp [h]
set_option maxHeartbeats 2000000 in
theorem Of_any (n : Int) (A : Option Addr) (m c : Nat) (xs : List (Int × Int × Int)) (w : World) (h : Rd edgeE w.heap.size w A xs) (hm : m = xs.length) (hmc : m ≤ c) (hl : m ≤ 40000) :
    Calls Try.prog 14 #[.int .i64 n, .slice A m c] w fun e w' => ∃ v, e = .returned (.tuple #[.agg #[.int .i64 (ofN n xs), v], .int .i64 (ofR n xs)]) ∧ Own edgeE 35 w.heap.size w' v (ofL n xs) ∧ Ext w w' := by
  obtain ⟨y1, hy1⟩ : ∃ q, q = ofN n xs := ⟨_, rfl⟩
  obtain ⟨y2, hy2⟩ : ∃ q, q = ofR n xs := ⟨_, rfl⟩
  obtain ⟨y3, hy3⟩ : ∃ q, q = ofL n xs := ⟨_, rfl⟩
  rw [← hy1, ← hy2, ← hy3]
  replace hy1 := hide hy1
  replace hy2 := hide hy2
  replace hy3 := hide hy3
  replace h := hide h
  replace hm := hide hm
  have hl' : m ≤ 1000000 := by omega
  go_enter Try.func14, Try.ntmps14
  go_upto_region 1 with fail
  obtain ⟨w0, hw0⟩ : ∃ w0, w0 = (w.alloc (.cells #[.int .i64 n] 3)).alloc (.cells #[.int .i64 0, .slice none 0 0] 24) := ⟨_, rfl⟩
  rw [← hw0]
  have E : Ext w w0 := by rw [hw0]; exact ((Below.refl _ _).alloc (Nat.le_refl _) _).alloc (by simp) _
  have X2 : BoxN w0 w.heap.size 3 #[.int .i64 n] := by rw [hw0]; exact (BoxN.new w _ _).alloc _
  have X4 : BoxG w0 (w.heap.size + 1) 0 none 0 0 := by
    rw [hw0]
    have := BoxN.new (w.alloc (.cells #[.int .i64 n] 3)) 24 #[.int .i64 0, .slice none 0 0]
    rw [World.size_alloc] at this
    exact this
  clear hw0
  obtain ⟨p2, hp2⟩ : ∃ b, b = w.heap.size := ⟨_, rfl⟩
  rw [← hp2] at X2 X4 ⊢
  obtain ⟨p4, hp4⟩ : ∃ b, b = p2 + 1 := ⟨_, rfl⟩
  rw [← hp4] at X4 ⊢
  have hle : w.heap.size ≤ p4 := by omega
  clear hp2 hp4
  have k2 := X2.cell 0 (v := .int .i64 n) rfl
  have s2 := X2.lt
  by_cases h1 : n < 0
  · have h1' : ¬ (0 ≤ n) := by omega
    have hok : okOf n xs = false := by unfold okOf; simp [h1']
    obtain ⟨v1, v2, v3⟩ := of_no hok
    rw [← hy1.out] at v1
    rw [← hy2.out] at v2
    rw [← hy3.out] at v3
    replace v1 := hide v1
    replace v2 := hide v2
    replace v3 := hide v3
    clear hok
    have f0 := X4.free 0
    have f1 := X4.free 1
    have k0 := X4.cell 0 (v := .int .i64 0) rfl
    have k1 := X4.cell 1 (v := .slice none 0 0) rfl
    have s4 := X4.lt
    go_wp2
    refine bodyPost_ret (results_cell_one rfl _ _ p4 24 #[.int .i64 0, .slice none 0 0] _ _ rfl ((X4.set 0 (.int .i64 0)).set 1 (.slice none 0 0)) Try.underlying24 rfl (by kernel_rfl)) rfl ?_
    exact ⟨_, by rw [v1.out, v2.out]; rfl, by rw [v3.out]; exact Own.nil_, (E.setCell (p := ⟨p4, 0, none⟩) hle _).setCell (p := ⟨p4, 1, none⟩) hle _⟩
  · have h1' : 0 ≤ n := by omega
    by_cases h2 : 300 < n
    · have h2' : ¬ (n ≤ 300) := by omega
      have hok : okOf n xs = false := by unfold okOf; simp [h2']
      obtain ⟨v1, v2, v3⟩ := of_no hok
      rw [← hy1.out] at v1
      rw [← hy2.out] at v2
      rw [← hy3.out] at v3
      replace v1 := hide v1
      replace v2 := hide v2
      replace v3 := hide v3
      clear hok
      have f0 := X4.free 0
      have f1 := X4.free 1
      have k0 := X4.cell 0 (v := .int .i64 0) rfl
      have k1 := X4.cell 1 (v := .slice none 0 0) rfl
      have s4 := X4.lt
      go_wp2
      refine bodyPost_ret (results_cell_one rfl _ _ p4 24 #[.int .i64 0, .slice none 0 0] _ _ rfl ((X4.set 0 (.int .i64 0)).set 1 (.slice none 0 0)) Try.underlying24 rfl (by kernel_rfl)) rfl ?_
      exact ⟨_, by rw [v1.out, v2.out]; rfl, by rw [v3.out]; exact Own.nil_, (E.setCell (p := ⟨p4, 0, none⟩) hle _).setCell (p := ⟨p4, 1, none⟩) hle _⟩
    · have h2' : n ≤ 300 := by omega
      go_wp2_with fail
      refine (all_Edge A m c xs 44 #[.pointer (some ⟨p2, 0, none⟩)] (fun _ x => rightE n x) _ hm.out (h.out.ext E) hl' ⟨enter_of, ?_⟩).mono ?_
      · intro i a b d W hi hW
        exact ofFun_any n a b d i p2 W (Nat.lt_of_lt_of_le s2 hW.size) (below_cell hW s2 k2)
      rintro e w2 ⟨rfl, hE⟩
      rw [allH_const]
      replace X2 := X2.ext hE
      replace X4 := X4.ext hE
      replace E := E.trans (hE.mono E.size)
      clear hE k2 s2
      cases hall : xs.all (rightE n) with
      | false =>
        have hok : okOf n xs = false := by unfold okOf; simp [hall]
        obtain ⟨v1, v2, v3⟩ := of_no hok
        rw [← hy1.out] at v1
        rw [← hy2.out] at v2
        rw [← hy3.out] at v3
        replace v1 := hide v1
        replace v2 := hide v2
        replace v3 := hide v3
        clear hok
        have f0 := X4.free 0
        have f1 := X4.free 1
        have k0 := X4.cell 0 (v := .int .i64 0) rfl
        have k1 := X4.cell 1 (v := .slice none 0 0) rfl
        have s4 := X4.lt
        go_wp2
        refine bodyPost_ret (results_cell_one rfl _ _ p4 24 #[.int .i64 0, .slice none 0 0] _ _ rfl ((X4.set 0 (.int .i64 0)).set 1 (.slice none 0 0)) Try.underlying24 rfl (by kernel_rfl)) rfl ?_
        exact ⟨_, by rw [v1.out, v2.out]; rfl, by rw [v3.out]; exact Own.nil_, (E.setCell (p := ⟨p4, 0, none⟩) hle _).setCell (p := ⟨p4, 1, none⟩) hle _⟩
      | true =>
        have hok : okOf n xs = true := by unfold okOf; rw [hall, decide_eq_true h1', decide_eq_true h2']; rfl
        obtain ⟨v1, v2, v3⟩ := of_yes hok
        rw [← hy1.out] at v1
        rw [← hy2.out] at v2
        rw [← hy3.out] at v3
        replace v1 := hide v1
        replace v2 := hide v2
        replace v3 := hide v3
        clear hok hall
        have k2 := X2.cell 0 (v := .int .i64 n) rfl
        have s2 := X2.lt
        go_wp2_with fail
        refine (of_any n A m c xs _ (h.out.ext E) hm.out hmc hl').mono ?_
        rintro e w3 ⟨v, rfl, hO, hE⟩
        replace X4 := X4.ext hE
        replace hO := hO.base_le E.size
        replace E := E.trans (hE.mono E.size)
        clear hE k2 s2 X2
        obtain ⟨A2, c2, rfl, -, -, -⟩ := hO.rd
        have hlen : (ofE xs).length ≤ 40000 := by have := ofE_len xs; have := hm.out; omega
        obtain ⟨l, hll⟩ : ∃ l, l = (ofE xs).length := ⟨_, rfl⟩
        rw [← hll] at hO hlen ⊢
        replace hll := hide hll
        have hlen' : ¬ (40000 : Int) < (l : Int) := by omega
        go_upto_region 4 with fail
        obtain ⟨w4, hw4⟩ : ∃ w0, w0 = w3.alloc (.cells #[.int .i64 n, .slice A2 l c2] 24) := ⟨_, rfl⟩
        rw [← hw4]
        replace X4 : BoxG w4 p4 0 none 0 0 := by rw [hw4]; exact X4.alloc _
        have X6 : BoxG w4 w3.heap.size n A2 l c2 := by rw [hw4]; exact BoxN.new _ _ _
        replace hO := hide (show Own edgeE 35 w.heap.size w4 (.slice A2 l c2) (ofE xs) by rw [hw4]; exact hO.alloc _)
        replace E : Ext w w4 := by rw [hw4]; exact E.alloc E.size _
        clear hw4
        obtain ⟨p6, hp6⟩ : ∃ b, b = w3.heap.size := ⟨_, rfl⟩
        rw [← hp6] at X6 ⊢
        clear hp6
        have f0 := X4.free 0
        have f1 := X4.free 1
        have k0 := X4.cell 0 (v := .int .i64 0) rfl
        have k1 := X4.cell 1 (v := .slice none 0 0) rfl
        have s4 := X4.lt
        have k60 := X6.cell 0 (v := .int .i64 n) rfl
        have k61 := X6.cell 1 (v := .slice A2 l c2) rfl
        have s6 := X6.lt
        go_wp2
        refine bodyPost_ret (results_cell_one rfl _ _ p4 24 #[.int .i64 n, .slice A2 l c2] _ _ rfl ((X4.set 0 (.int .i64 n)).set 1 (.slice A2 l c2)) Try.underlying24 rfl (by kernel_rfl)) rfl ?_
        exact ⟨_, by rw [v1.out, v2.out]; rfl, by rw [v3.out]; exact (hO.out.setN X4 (by decide) 0 _).setN (X4.set 0 _) (by decide) 1 _, (E.setCell (p := ⟨p4, 0, none⟩) hle _).setCell (p := ⟨p4, 1, none⟩) hle _⟩
/-- are two graphs one? -/
def sameG (n1 : Int) (xs : List (Int × Int × Int)) (n2 : Int) (ys : List (Int × Int × Int)) : Bool := decide (n1 = n2) && decide (xs = ys)
theorem sameG_self (n : Int) (xs : List (Int × Int × Int)) : sameG n xs n xs = true := by unfold sameG; simp
set_option maxHeartbeats 1000000 in
theorem sameEdges_any (A1 A2 : Option Addr) (n1 c1 n2 c2 : Nat) (xs ys : List (Int × Int × Int)) (w : World) (hn1 : n1 = xs.length) (h1 : Rd edgeE w.heap.size w A1 xs) (hn2 : n2 = ys.length) (h2 : Rd edgeE w.heap.size w A2 ys) (hl : n1 ≤ 1000000) :
    Calls Try.prog 47 #[.slice A1 n1 c1, .slice A2 n2 c2] w fun e w' => e = .returned (.bool (decide (xs = ys))) ∧ Ext w w' := by
  obtain ⟨q, hq⟩ : ∃ q, q = decide (xs = ys) := ⟨_, rfl⟩
  rw [← hq]
  by_cases hnm : n1 = n2
  · have hnm' : ((n1 : Int) != (n2 : Int)) = false := by simp [hnm]
    subst hnm
    replace hq := hide hq
    replace hn1 := hide hn1
    replace hn2 := hide hn2
    replace h1 := hide h1
    replace h2 := hide h2
    go_enter Try.func47, Try.ntmps47
    go_wp2
    go_loopw [13] (fun i wr => ∃ k : Nat, k ≤ n1 ∧ i = .int .i64 k ∧ Hid (xs.take k = ys.take k) ∧ Ext w wr) (fun i _ => n1 - (intOf i).toNat)
    case atStart => exact ⟨0, by omega, rfl, hide rfl, Below.refl _ _⟩
    case round =>
      obtain ⟨k, hk, rfl, heq, hB⟩ := hrel
      obtain ⟨hc, hf⟩ := bcell hB
      by_cases hlt : k < n1
      · obtain ⟨b, off, rfl, hra⟩ := h1.out.at_ (i := k) (by rw [← hn1.out]; exact hlt)
        obtain ⟨b', off', rfl, hrb⟩ := h2.out.at_ (i := k) (by rw [← hn2.out]; exact hlt)
        have hsz := hB.size
        obtain ⟨⟨p1, p2, p3⟩, hx⟩ := get_some (xs := xs) (i := k) (by rw [← hn1.out]; exact hlt)
        obtain ⟨⟨q1, q2, q3⟩, hy⟩ := get_some (xs := ys) (i := k) (by rw [← hn2.out]; exact hlt)
        obtain ⟨hx1, hx2, hx3⟩ := (hra.below hB).edge hx
        obtain ⟨hy1, hy2, hy3⟩ := (hrb.below hB).edge hy
        have hb1 : b < wr.heap.size := Nat.lt_of_lt_of_le hra.1 hsz
        have hb2 : b' < wr.heap.size := Nat.lt_of_lt_of_le hrb.1 hsz
        replace hra := hide hra
        replace hrb := hide hrb
        replace hx := hide hx
        replace hy := hide hy
        clear hc hf
        have hk1 : (k : Int) < (n1 : Int) := by omega
        go_upto_region 6 with fail
        have T : Ext wr wr.drew := (Below.refl _ _).drew
        refine wp_region_mix (fun W => Below wr.heap.size wr W) [(0, true), (1, true), (2, true), (3, true), (4, true), (5, true), (6, true), (7, true), (8, true)] (by kernel_rfl) (by kernel_rfl) (by kernel_rfl) (by kernel_rfl) (fun _ _ d _ _ h => by cases d <;> exact h) ?_ ?_
        · exact T
        iterate 9
          apply mix_q rfl rfl
          · intro W hW
            have hcW := (bcell hW).1
            go_simp
            try exact rfl
          simp only [Act.put, List.setIfInBounds_toArray, List.set_cons_zero, List.set_cons_succ]
        refine mix_nil ?_
        cases hne : neE (p1, p2, p3) (q1, q2, q3)
        · have he := (neE_iff _ _).1 hne
          have htk : Hid (xs.take (k + 1) = ys.take (k + 1)) := hide (by rw [take_snoc hx.out, take_snoc hy.out, heq.out, he])
          clear he
          go_wp2
          refine ⟨?_, ?_⟩
          · first
              | exact ⟨k + 1, by omega, by go_num, htk, hB.drew⟩
              | ((repeat apply Exists.intro); exact ⟨⟨k + 1, by omega, by go_num, htk, hB.drew⟩, rfl⟩)
          · first | (simp [intOf, lenV]; omega) | (simp [intOf]; omega) | (simp [intOf]; done)
        · have hv : Hid (q = false) := hide (by
            rw [hq.out]
            refine decide_eq_false ?_
            rintro rfl
            have := hx.out.symm.trans hy.out
            injection this with this
            rw [this, (neE_iff _ _).2 rfl] at hne
            cases hne)
          go_wp2
          go_ret
          exact ⟨ret_bool hv.out.symm, hB.drew⟩
      · have hk1 : ¬ (k : Int) < (n1 : Int) := by omega
        have hv : Hid (q = true) := hide (by
          rw [hq.out]
          have e := heq.out
          rw [List.take_of_length_le (by rw [← hn1.out]; omega), List.take_of_length_le (by rw [← hn2.out]; omega)] at e
          exact decide_eq_true e)
        go_wp2
        go_ret
        exact ⟨ret_bool hv.out.symm, hB⟩
  · have hnm' : ((n1 : Int) != (n2 : Int)) = true := by simp; omega
    have hv : Hid (q = false) := hide (by rw [hq]; exact decide_eq_false (fun h => hnm (by rw [hn1, hn2, h])))
    clear hq
    replace hn1 := hide hn1
    replace hn2 := hide hn2
    replace h1 := hide h1
    replace h2 := hide h2
    go_enter Try.func47, Try.ntmps47
    go_wp2
    go_ret
    exact ⟨ret_bool hv.out.symm, Below.refl _ _⟩
set_option maxHeartbeats 1000000 in
theorem refSame_any (n1 n2 : Int) (A1 A2 : Option Addr) (m1 c1 m2 c2 : Nat) (xs ys : List (Int × Int × Int)) (w : World) (h1 : Rd edgeE w.heap.size w A1 xs) (hm1 : m1 = xs.length) (h2 : Rd edgeE w.heap.size w A2 ys) (hm2 : m2 = ys.length) (hl : m1 ≤ 1000000) :
    Calls Try.prog 17 #[.agg #[.int .i64 n1, .slice A1 m1 c1], .agg #[.int .i64 n2, .slice A2 m2 c2]] w fun e w' => e = .returned (.bool (sameG n1 xs n2 ys)) ∧ Ext w w' := by
  obtain ⟨q, hq⟩ : ∃ q, q = sameG n1 xs n2 ys := ⟨_, rfl⟩
  rw [← hq]
  replace h1 := hide h1
  replace h2 := hide h2
  replace hm1 := hide hm1
  replace hm2 := hide hm2
  go_enter Try.func17, Try.ntmps17
  go_upto_region 1 with fail
  obtain ⟨w0, hw0⟩ : ∃ w0, w0 = (w.alloc (.cells #[.int .i64 n1, .slice A1 m1 c1] 24)).alloc (.cells #[.int .i64 n2, .slice A2 m2 c2] 24) := ⟨_, rfl⟩
  rw [← hw0]
  have E : Ext w w0 := by rw [hw0]; exact ((Below.refl _ _).alloc (Nat.le_refl _) _).alloc (by simp) _
  have X2 : BoxG w0 w.heap.size n1 A1 m1 c1 := by rw [hw0]; exact (BoxN.new w _ _).alloc _
  have X3 : BoxG w0 (w.heap.size + 1) n2 A2 m2 c2 := by
    rw [hw0]
    have := BoxN.new (w.alloc (.cells #[.int .i64 n1, .slice A1 m1 c1] 24)) 24 #[.int .i64 n2, .slice A2 m2 c2]
    rw [World.size_alloc] at this
    exact this
  clear hw0
  obtain ⟨p2, hp2⟩ : ∃ b, b = w.heap.size := ⟨_, rfl⟩
  rw [← hp2] at X2 X3 ⊢
  obtain ⟨p3, hp3⟩ : ∃ b, b = p2 + 1 := ⟨_, rfl⟩
  rw [← hp3] at X3 ⊢
  clear hp2 hp3
  have k20 := X2.cell 0 (v := .int .i64 n1) rfl
  have k21 := X2.cell 1 (v := .slice A1 m1 c1) rfl
  have k30 := X3.cell 0 (v := .int .i64 n2) rfl
  have k31 := X3.cell 1 (v := .slice A2 m2 c2) rfl
  have s2 := X2.lt
  have s3 := X3.lt
  by_cases hn : n1 = n2
  · have hv : Hid (q = decide (xs = ys)) := hide (by rw [hq]; unfold sameG; rw [decide_eq_true hn, Bool.true_and])
    clear hq
    have hn' : (n1 == n2) = true := by simp [hn]
    subst hn
    go_wp2_with fail
    refine (sameEdges_any A1 A2 m1 c1 m2 c2 xs ys _ hm1.out (h1.out.ext E) hm2.out (h2.out.ext E) hl).mono ?_
    rintro e w1 ⟨rfl, hE⟩
    rw [← hv.out]
    go_wp2
    go_ret
    exact ⟨rfl, E.trans (hE.mono E.size)⟩
  · have hv : Hid (q = false) := hide (by rw [hq]; unfold sameG; rw [decide_eq_false hn, Bool.false_and])
    clear hq
    have hn' : (n1 == n2) = false := by simp [hn]
    go_wp2
    go_ret
    exact ⟨ret_bool hv.out.symm, E⟩
set_option maxHeartbeats 1000000 in
theorem same_any (n1 n2 : Int) (A1 A2 : Option Addr) (m1 c1 m2 c2 : Nat) (xs ys : List (Int × Int × Int)) (w : World) (h1 : Rd edgeE w.heap.size w A1 xs) (hm1 : m1 = xs.length) (h2 : Rd edgeE w.heap.size w A2 ys) (hm2 : m2 = ys.length) (hl : m1 ≤ 1000000) :
    Calls Try.prog 19 #[.agg #[.int .i64 n1, .slice A1 m1 c1], .agg #[.int .i64 n2, .slice A2 m2 c2]] w fun e w' => e = .returned (.bool (sameG n1 xs n2 ys)) ∧ Ext w w' := by
  obtain ⟨q, hq⟩ : ∃ q, q = sameG n1 xs n2 ys := ⟨_, rfl⟩
  rw [← hq]
  replace h1 := hide h1
  replace h2 := hide h2
  replace hm1 := hide hm1
  replace hm2 := hide hm2
  go_enter Try.func19, Try.ntmps19
  go_upto_region 1 with fail
  obtain ⟨w0, hw0⟩ : ∃ w0, w0 = (w.alloc (.cells #[.int .i64 n1, .slice A1 m1 c1] 24)).alloc (.cells #[.int .i64 n2, .slice A2 m2 c2] 24) := ⟨_, rfl⟩
  rw [← hw0]
  have E : Ext w w0 := by rw [hw0]; exact ((Below.refl _ _).alloc (Nat.le_refl _) _).alloc (by simp) _
  have X2 : BoxG w0 w.heap.size n1 A1 m1 c1 := by rw [hw0]; exact (BoxN.new w _ _).alloc _
  have X3 : BoxG w0 (w.heap.size + 1) n2 A2 m2 c2 := by
    rw [hw0]
    have := BoxN.new (w.alloc (.cells #[.int .i64 n1, .slice A1 m1 c1] 24)) 24 #[.int .i64 n2, .slice A2 m2 c2]
    rw [World.size_alloc] at this
    exact this
  clear hw0
  obtain ⟨p2, hp2⟩ : ∃ b, b = w.heap.size := ⟨_, rfl⟩
  rw [← hp2] at X2 X3 ⊢
  obtain ⟨p3, hp3⟩ : ∃ b, b = p2 + 1 := ⟨_, rfl⟩
  rw [← hp3] at X3 ⊢
  clear hp2 hp3
  have k20 := X2.cell 0 (v := .int .i64 n1) rfl
  have k21 := X2.cell 1 (v := .slice A1 m1 c1) rfl
  have k30 := X3.cell 0 (v := .int .i64 n2) rfl
  have k31 := X3.cell 1 (v := .slice A2 m2 c2) rfl
  have s2 := X2.lt
  have s3 := X3.lt
  by_cases hn : n1 = n2
  · have hv : Hid (q = decide (xs = ys)) := hide (by rw [hq]; unfold sameG; rw [decide_eq_true hn, Bool.true_and])
    clear hq
    have hn' : (n1 == n2) = true := by simp [hn]
    subst hn
    go_wp2_with fail
    refine (equal_Edge A1 A2 m1 c1 m2 c2 xs ys _ hm1.out (h1.out.ext E) hm2.out (h2.out.ext E) hl).mono ?_
    rintro e w1 ⟨rfl, hE⟩
    rw [← hv.out]
    go_wp2
    go_ret
    exact ⟨rfl, E.trans (hE.mono E.size)⟩
  · have hv : Hid (q = false) := hide (by rw [hq]; unfold sameG; rw [decide_eq_false hn, Bool.false_and])
    clear hq
    have hn' : (n1 == n2) = false := by simp [hn]
    go_wp2
    go_ret
    exact ⟨ret_bool hv.out.symm, E⟩
set_option maxHeartbeats 1000000 in
theorem fair_any (n : Int) (A : Option Addr) (m c : Nat) (xs : List (Int × Int × Int)) (w : World) (h : Rd edgeE w.heap.size w A xs) (hm : m = xs.length) (hmc : m ≤ c) :
    Calls Try.prog 10 #[.agg #[.int .i64 n, .slice A m c]] w fun e w' => ∃ v, e = .returned (.agg #[.int .i64 n, v]) ∧ Own edgeE 35 w.heap.size w' v (xs.take 80) ∧ Ext w w' := by
  replace h := hide h
  replace hm := hide hm
  go_enter Try.func10, Try.ntmps10
  go_upto_region 1 with fail
  obtain ⟨w0, hw0⟩ : ∃ w0, w0 = (w.alloc (.cells #[.int .i64 n, .slice A m c] 24)).alloc (.cells #[.int .i64 0, .slice none 0 0] 24) := ⟨_, rfl⟩
  rw [← hw0]
  have E : Ext w w0 := by rw [hw0]; exact ((Below.refl _ _).alloc (Nat.le_refl _) _).alloc (by simp) _
  have X1 : BoxG w0 w.heap.size n A m c := by rw [hw0]; exact (BoxN.new w _ _).alloc _
  have X2 : BoxG w0 (w.heap.size + 1) 0 none 0 0 := by
    rw [hw0]
    have := BoxN.new (w.alloc (.cells #[.int .i64 n, .slice A m c] 24)) 24 #[.int .i64 0, .slice none 0 0]
    rw [World.size_alloc] at this
    exact this
  clear hw0
  obtain ⟨p1, hp1⟩ : ∃ b, b = w.heap.size := ⟨_, rfl⟩
  rw [← hp1] at X1 X2 ⊢
  obtain ⟨p2, hp2⟩ : ∃ b, b = p1 + 1 := ⟨_, rfl⟩
  rw [← hp2] at X2 ⊢
  have hle : w.heap.size ≤ p2 := by omega
  clear hp1 hp2
  have k0 := X1.cell 0 (v := .int .i64 n) rfl
  have k1 := X1.cell 1 (v := .slice A m c) rfl
  have s1 := X1.lt
  have T : Ext w0 w0.drew := (Below.refl _ _).drew
  refine wp_region_mixE (fun W => Below w0.heap.size w0 W) 6 [(0, true), (1, true), (2, true), (3, true), (4, false), (5, true), (6, false)] (by kernel_rfl) (by kernel_rfl) (by kernel_rfl) (by kernel_rfl) (by kernel_rfl) (by kernel_rfl) (fun _ _ d _ _ h => by cases d <;> exact h) ?_ ?_
  · exact T
  obtain ⟨wl, hwh⟩ : ∃ x, x = w0.drew := ⟨_, rfl⟩
  rw [← hwh] at T ⊢
  clear hwh
  iterate 4
    apply mixE_q rfl rfl
    · intro W hW
      have hcW := (bcell hW).1
      go_simp
      try exact rfl
    simp only [Act.put, List.setIfInBounds_toArray, List.set_cons_zero, List.set_cons_succ]
  refine mixE_w rfl rfl (fun K hK => ?_)
  go_simp
  refine (few_any A m c xs _ hm.out (h.out.ext (E.trans (T.mono E.size))) hmc).mono ?_
  rintro e w1 ⟨v, rfl, hO, hE⟩
  replace hO := hO.base_le (Nat.le_trans E.size T.size)
  replace T := T.trans (hE.mono T.size)
  refine hK _ _ (fun _ => T) ?_
  clear hK K hE
  try simp only [Act.put, List.setIfInBounds_toArray, List.set_cons_zero, List.set_cons_succ]
  obtain ⟨A2, c2, rfl, -, -, -⟩ := hO.rd
  obtain ⟨l, hll⟩ : ∃ l, l = (xs.take 80).length := ⟨_, rfl⟩
  rw [← hll] at hO ⊢
  replace hll := hide hll
  iterate 1
    apply mixE_q rfl rfl
    · intro W hW
      have hcW := (bcell hW).1
      go_simp
      try exact rfl
    simp only [Act.put, List.setIfInBounds_toArray, List.set_cons_zero, List.set_cons_succ]
  replace X2 := X2.ext T
  have f0 := X2.free 0
  have f1 := X2.free 1
  have q0 := X2.cell 0 (v := .int .i64 0) rfl
  have q1 := X2.cell 1 (v := .slice none 0 0) rfl
  have s2 := X2.lt
  clear k0 k1 s1 X1
  refine mixE_w rfl rfl (fun K hK => ?_)
  go_simp
  refine hK _ _ (fun h => absurd rfl h) ?_
  clear hK K
  try simp only [Act.put, List.setIfInBounds_toArray, List.set_cons_zero, List.set_cons_succ]
  refine mixE_nil ?_
  have R : Ext w w1 := E.trans (T.mono E.size)
  have O2 := hide ((hO.setN X2 (by decide) 0 (.int .i64 n)).setN (X2.set 0 (.int .i64 n)) (by decide) 1 (.slice A2 l c2))
  have Y2 := hide ((X2.set 0 (.int .i64 n)).set 1 (.slice A2 l c2))
  have E2 := hide ((R.setCell (p := ⟨p2, 0, none⟩) hle (.int .i64 n)).setCell (p := ⟨p2, 1, none⟩) hle (.slice A2 l c2))
  go_wp2
  refine bodyPost_ret (results_cell_row rfl _ _ p2 24 #[.int .i64 n, .slice A2 l c2] _ _ rfl Y2.out Try.underlying24 rfl (by kernel_rfl)) rfl ?_
  exact ⟨_, rfl, O2.out, E2.out⟩
def smallL : List (Int × Int × Int) := [(0, 1, 2), (1, 2, 1), (0, 1, 0), (0, 1, 2)]
set_option maxHeartbeats 1000000 in
theorem small_any (w : World) : Calls Try.prog 38 #[] w fun e w' => ∃ A, e = .returned (.slice A 4 4) ∧ Own edgeE 35 w.heap.size w' (.slice A 4 4) smallL ∧ Ext w w' := by
  go_enter Try.func38, Try.ntmps38
  go_wp2
  go_ret
  exact ⟨_, rfl, own_made edgeE 35 w smallL w.heap.size rfl (Nat.le_refl _) (by simp [maxLen, smallL]), (Below.refl _ _).alloc (Nat.le_refl _) _⟩
end Go.Proofs.Ytoihankkldafoaa
