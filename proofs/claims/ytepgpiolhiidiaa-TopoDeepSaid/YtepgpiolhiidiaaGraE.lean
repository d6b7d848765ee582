/- graph.Of, Same; the document's Right, Same; fair, small. -/
import Derived.Test.YtepgpiolhiidiaaGraD
namespace Go.Proofs.Ytepgpiolhiidiaa
open Go.RowKit

theorem own_made {α : Type} (E : El α) (e : TypeId) {base : Nat} (w : World) (xs : List α) (g : Nat) (hg : w.heap.size = g) (hb : base ≤ g) (hm : xs.length ≤ maxLen) : Own E e base (w.alloc (.cells (E.row xs).toArray e)) (.slice (some ⟨g, 0, none⟩) xs.length xs.length) xs := by
  subst hg
  refine ⟨by rw [E.row_length], .inr ⟨w.heap.size, xs.length, _, rfl, hb, heap_alloc_new w _, Nat.le_refl _, hm, by simp [E.row_length], ?_⟩⟩
  simp only [List.toList_toArray]
  exact List.take_of_length_le (by rw [E.row_length]; exact Nat.le_refl _)
theorem allH_const {α : Type} (p : α → Bool) (xs : List α) : allH (fun _ x => p x) xs = xs.all p := by
  cases h : xs.all p with
  | true =>
    rw [allH_iff]
    intro i x hx
    exact List.all_eq_true.1 h x (List.mem_of_getElem? hx)
  | false =>
    obtain ⟨x, hx, hp⟩ := List.all_eq_false.1 h
    obtain ⟨i, hi⟩ := List.mem_iff_getElem?.1 hx
    exact allH_false hi (by simpa using hp)
/-- may a graph be made of these? -/
def okOf (n : Int) (xs : List (Int × Int × Int)) : Bool := (decide (0 ≤ n) && decide (n ≤ 300)) && xs.all (rightE n)
def ofN (n : Int) (xs : List (Int × Int × Int)) : Int := if okOf n xs = true then n else 0
def ofR (n : Int) (xs : List (Int × Int × Int)) : Int := if okOf n xs = true then 0 else 2
def ofL (n : Int) (xs : List (Int × Int × Int)) : List (Int × Int × Int) := if okOf n xs = true then ofE xs else []
theorem of_no {n : Int} {xs : List (Int × Int × Int)} (h : okOf n xs = false) : ofN n xs = 0 ∧ ofR n xs = 2 ∧ ofL n xs = [] := by unfold ofN ofR ofL; simp [h]
theorem of_yes {n : Int} {xs : List (Int × Int × Int)} (h : okOf n xs = true) : ofN n xs = n ∧ ofR n xs = 0 ∧ ofL n xs = ofE xs := by unfold ofN ofR ofL; simp [h]
/-- are two graphs one? -/
def sameG (n1 : Int) (xs : List (Int × Int × Int)) (n2 : Int) (ys : List (Int × Int × Int)) : Bool := decide (n1 = n2) && decide (xs = ys)
theorem sameG_self (n : Int) (xs : List (Int × Int × Int)) : sameG n xs n xs = true := by unfold sameG; simp
set_option maxHeartbeats 1000000 in
theorem sameEdges_any (A1 A2 : Option Addr) (n1 c1 n2 c2 : Nat) (xs ys : List (Int × Int × Int)) (w : World) (hn1 : n1 = xs.length) (h1 : Rd edgeE w.heap.size w A1 xs) (hn2 : n2 = ys.length) (h2 : Rd edgeE w.heap.size w A2 ys) (hl : n1 ≤ 1000000) :
    Calls Try.prog 40 #[.slice A1 n1 c1, .slice A2 n2 c2] w fun e w' => e = .returned (.bool (decide (xs = ys))) ∧ Ext w w' := by
  obtain ⟨q, hq⟩ : ∃ q, q = decide (xs = ys) := ⟨_, rfl⟩
  rw [← hq]
  by_cases hnm : n1 = n2
  · have hnm' : ((n1 : Int) != (n2 : Int)) = false := by simp [hnm]
    subst hnm
    replace hq := hide hq
    replace hn1 := hide hn1
    replace hn2 := hide hn2
    replace h1 := hide h1
    replace h2 := hide h2
    go_enter Try.func40, Try.ntmps40
    go_wp2
    go_loopw [13] (fun i wr => ∃ k : Nat, k ≤ n1 ∧ i = .int .i64 k ∧ Hid (xs.take k = ys.take k) ∧ Ext w wr) (fun i _ => n1 - (intOf i).toNat)
    case atStart => exact ⟨0, by omega, rfl, hide rfl, Below.refl _ _⟩
    case round =>
      obtain ⟨k, hk, rfl, heq, hB⟩ := hrel
      obtain ⟨hc, hf⟩ := bcell hB
      by_cases hlt : k < n1
      · obtain ⟨b, off, rfl, hra⟩ := h1.out.at_ (i := k) (by rw [← hn1.out]; exact hlt)
        obtain ⟨b', off', rfl, hrb⟩ := h2.out.at_ (i := k) (by rw [← hn2.out]; exact hlt)
        have hsz := hB.size
        obtain ⟨⟨p1, p2, p3⟩, hx⟩ := get_some (xs := xs) (i := k) (by rw [← hn1.out]; exact hlt)
        obtain ⟨⟨q1, q2, q3⟩, hy⟩ := get_some (xs := ys) (i := k) (by rw [← hn2.out]; exact hlt)
        obtain ⟨hx1, hx2, hx3⟩ := (hra.below hB).edge hx
        obtain ⟨hy1, hy2, hy3⟩ := (hrb.below hB).edge hy
        have hb1 : b < wr.heap.size := Nat.lt_of_lt_of_le hra.1 hsz
        have hb2 : b' < wr.heap.size := Nat.lt_of_lt_of_le hrb.1 hsz
        replace hra := hide hra
        replace hrb := hide hrb
        replace hx := hide hx
        replace hy := hide hy
        clear hc hf
        have hk1 : (k : Int) < (n1 : Int) := by omega
        go_upto_region 6 with fail
        have T : Ext wr wr.drew := (Below.refl _ _).drew
        refine wp_region_mix (fun W => Below wr.heap.size wr W) [(0, true), (1, true), (2, true), (3, true), (4, true), (5, true), (6, true), (7, true), (8, true)] (by kernel_rfl) (by kernel_rfl) (by kernel_rfl) (by kernel_rfl) (fun _ _ d _ _ h => by cases d <;> exact h) ?_ ?_
        · exact T
        iterate 9
          apply mix_q rfl rfl
          · intro W hW
            have hcW := (bcell hW).1
            go_simp
            try exact rfl
          simp only [Act.put, List.setIfInBounds_toArray, List.set_cons_zero, List.set_cons_succ]
        refine mix_nil ?_
        cases hne : neE (p1, p2, p3) (q1, q2, q3)
        · have he := (neE_iff _ _).1 hne
          have htk : Hid (xs.take (k + 1) = ys.take (k + 1)) := hide (by rw [take_snoc hx.out, take_snoc hy.out, heq.out, he])
          clear he
          go_wp2
          refine ⟨?_, ?_⟩
          · first
              | exact ⟨k + 1, by omega, by go_num, htk, hB.drew⟩
              | ((repeat apply Exists.intro); exact ⟨⟨k + 1, by omega, by go_num, htk, hB.drew⟩, rfl⟩)
          · first | (simp [intOf, lenV]; omega) | (simp [intOf]; omega) | (simp [intOf]; done)
        · have hv : Hid (q = false) := hide (by
            rw [hq.out]
            refine decide_eq_false ?_
            rintro rfl
            have := hx.out.symm.trans hy.out
            injection this with this
            rw [this, (neE_iff _ _).2 rfl] at hne
            cases hne)
          go_wp2
          go_ret
          exact ⟨ret_bool hv.out.symm, hB.drew⟩
      · have hk1 : ¬ (k : Int) < (n1 : Int) := by omega
        have hv : Hid (q = true) := hide (by
          rw [hq.out]
          have e := heq.out
          rw [List.take_of_length_le (by rw [← hn1.out]; omega), List.take_of_length_le (by rw [← hn2.out]; omega)] at e
          exact decide_eq_true e)
        go_wp2
        go_ret
        exact ⟨ret_bool hv.out.symm, hB⟩
  · have hnm' : ((n1 : Int) != (n2 : Int)) = true := by simp; omega
    have hv : Hid (q = false) := hide (by rw [hq]; exact decide_eq_false (fun h => hnm (by rw [hn1, hn2, h])))
    clear hq
    replace hn1 := hide hn1
    replace hn2 := hide hn2
    replace h1 := hide h1
    replace h2 := hide h2
    go_enter Try.func40, Try.ntmps40
    go_wp2
    go_ret
    exact ⟨ret_bool hv.out.symm, Below.refl _ _⟩
set_option maxHeartbeats 1000000 in
theorem refSame_any (n1 n2 : Int) (A1 A2 : Option Addr) (m1 c1 m2 c2 : Nat) (xs ys : List (Int × Int × Int)) (w : World) (h1 : Rd edgeE w.heap.size w A1 xs) (hm1 : m1 = xs.length) (h2 : Rd edgeE w.heap.size w A2 ys) (hm2 : m2 = ys.length) (hl : m1 ≤ 1000000) :
    Calls Try.prog 20 #[.agg #[.int .i64 n1, .slice A1 m1 c1], .agg #[.int .i64 n2, .slice A2 m2 c2]] w fun e w' => e = .returned (.bool (sameG n1 xs n2 ys)) ∧ Ext w w' := by
  obtain ⟨q, hq⟩ : ∃ q, q = sameG n1 xs n2 ys := ⟨_, rfl⟩
  rw [← hq]
  replace h1 := hide h1
  replace h2 := hide h2
  replace hm1 := hide hm1
  replace hm2 := hide hm2
  go_enter Try.func20, Try.ntmps20
  go_upto_region 1 with fail
  obtain ⟨w0, hw0⟩ : ∃ w0, w0 = (w.alloc (.cells #[.int .i64 n1, .slice A1 m1 c1] 24)).alloc (.cells #[.int .i64 n2, .slice A2 m2 c2] 24) := ⟨_, rfl⟩
  rw [← hw0]
  have E : Ext w w0 := by rw [hw0]; exact ((Below.refl _ _).alloc (Nat.le_refl _) _).alloc (by simp) _
  have X2 : BoxG w0 w.heap.size n1 A1 m1 c1 := by rw [hw0]; exact (BoxN.new w _ _).alloc _
  have X3 : BoxG w0 (w.heap.size + 1) n2 A2 m2 c2 := by
    rw [hw0]
    have := BoxN.new (w.alloc (.cells #[.int .i64 n1, .slice A1 m1 c1] 24)) 24 #[.int .i64 n2, .slice A2 m2 c2]
    rw [World.size_alloc] at this
    exact this
  clear hw0
  obtain ⟨p2, hp2⟩ : ∃ b, b = w.heap.size := ⟨_, rfl⟩
  rw [← hp2] at X2 X3 ⊢
  obtain ⟨p3, hp3⟩ : ∃ b, b = p2 + 1 := ⟨_, rfl⟩
  rw [← hp3] at X3 ⊢
  clear hp2 hp3
  have k20 := X2.cell 0 (v := .int .i64 n1) rfl
  have k21 := X2.cell 1 (v := .slice A1 m1 c1) rfl
  have k30 := X3.cell 0 (v := .int .i64 n2) rfl
  have k31 := X3.cell 1 (v := .slice A2 m2 c2) rfl
  have s2 := X2.lt
  have s3 := X3.lt
  by_cases hn : n1 = n2
  · have hv : Hid (q = decide (xs = ys)) := hide (by rw [hq]; unfold sameG; rw [decide_eq_true hn, Bool.true_and])
    clear hq
    have hn' : (n1 == n2) = true := by simp [hn]
    subst hn
    go_wp2_with fail
    refine (sameEdges_any A1 A2 m1 c1 m2 c2 xs ys _ hm1.out (h1.out.ext E) hm2.out (h2.out.ext E) hl).mono ?_
    rintro e w1 ⟨rfl, hE⟩
    rw [← hv.out]
    go_wp2
    go_ret
    exact ⟨rfl, E.trans (hE.mono E.size)⟩
  · have hv : Hid (q = false) := hide (by rw [hq]; unfold sameG; rw [decide_eq_false hn, Bool.false_and])
    clear hq
    have hn' : (n1 == n2) = false := by simp [hn]
    go_wp2
    go_ret
    exact ⟨ret_bool hv.out.symm, E⟩
def smallL : List (Int × Int × Int) := [(0, 1, 2), (1, 2, 1), (0, 1, 0), (0, 1, 2)]
end Go.Proofs.Ytepgpiolhiidiaa
