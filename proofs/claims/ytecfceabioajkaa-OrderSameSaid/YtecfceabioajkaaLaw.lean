/- What layer 3's statements do: wakes, Merge of the document, IsSortedFunc. -/
import Derived.Test.YtecfceabioajkaaRef
import Derived.Test.YtecfceabioajkaaSort2
import Derived.Test.YtecfceabioajkaaList
namespace Go.Proofs.Ytecfceabioajkaa
open Go.RowKit

theorem rd_lit {α : Type} (E : El α) (e : TypeId) (w : World) (xs : List α) (cs : Array Value) (hc : cs.toList = E.row xs) : Rd E (w.heap.size + 1) (w.alloc (.cells cs e)) (some ⟨w.heap.size, 0, none⟩) xs := by
  refine .inr ⟨w.heap.size, 0, rfl, Nat.lt_succ_self _, fun i x hx j u hu => ?_⟩
  have h1 := E.row_get xs i x hx j u hu
  rw [Nat.zero_add, World.cell?_alloc_new, ← h1, ← hc]
  simp

theorem refMerge_any (A B : Option Addr) (n c m d : Nat) (xs ys : List (Int × Int)) (w : World) (hn : n = xs.length) (h : Rd pairE w.heap.size w A xs) (hm : m = ys.length) (h' : Rd pairE w.heap.size w B ys) (hb : n + m ≤ 1000000) :
    Calls Try.prog 15 #[.slice A n c, .slice B m d] w fun e w' => ∃ v, e = .returned v ∧ Own pairE 26 w.heap.size w' v (isort ltP (xs ++ ys)) ∧ Ext w w' := by
  replace hn := hide hn
  replace h := hide h
  replace hm := hide hm
  replace h' := hide h'
  go_enter Try.func15, Try.ntmps15
  go_wp2_with (at_builtin; (refine wpList_app (ys := xs) tyPair rfl (.tmp 6) (.tmp 7) rfl rfl (Own.nil_ (base := w.heap.size) (w := w)) rfl h.out hn.out (by simp; have := hn.out; omega) (by exact Nat.le_refl _) ?_))
  intro v1 w1 ho1 hg1 _ _
  have hB1 : Ext w w1 := (Own.nil_ (E := pairE) (e := 26) (base := w.heap.size) (w := w)).below (Below.refl _ _) hg1 (Nat.le_refl _)
  try rw [List.nil_append] at ho1
  replace ho1 := hide ho1
  replace hg1 := hide hg1
  have hl1 := hn.out
  have hl2 := hm.out
  replace hl1 := hide hl1
  replace hl2 := hide hl2
  go_wp2_with (at_builtin; (refine wpList_app (ys := ys) tyPair rfl (.tmp 9) (.tmp 10) rfl rfl ho1.out rfl (h'.out.below hB1) hm.out (by have := hl1.out; have := hl2.out; omega) hB1.size ?_))
  intro v2 w2 ho2 hg2 _ _
  have hB2 : Ext w w2 := ho1.out.below hB1 hg2 hB1.size
  obtain ⟨A2, c2, rfl, rd2, -, -⟩ := ho2.rd
  replace ho2 := hide ho2
  replace hg2 := hide hg2
  obtain ⟨m2, hm2⟩ : ∃ k, k = (xs ++ ys).length := ⟨_, rfl⟩
  rw [← hm2]
  have hm2' : m2 ≤ 1000000 := by rw [hm2, List.length_append]; have := hl1.out; have := hl2.out; omega
  replace hm2 := hide hm2
  replace rd2 := hide rd2
  go_wp2_with fail
  refine (refSort_any A2 m2 c2 (xs ++ ys) _ hm2.out rd2.out hm2').mono ?_
  rintro e w3 ⟨v, rfl, ho3, hE3⟩
  replace ho3 := hide ho3
  go_wp2
  go_ret
  exact ⟨v, rfl, ho3.out.base_le hB2.size, hB2.trans (hE3.mono hB2.size)⟩

theorem srt_step {α : Type} {lt : α → α → Bool} {xs : List α} (h : srt lt xs) {k : Nat} {x y : α} (hx : xs[k]? = some x) (hy : xs[k + 1]? = some y) : lt y x = false := by
  obtain ⟨h1, rfl⟩ := List.getElem?_eq_some_iff.1 hx
  obtain ⟨h2, rfl⟩ := List.getElem?_eq_some_iff.1 hy
  exact List.pairwise_iff_getElem.1 h k (k + 1) h1 h2 (Nat.lt_succ_self k)

set_option maxHeartbeats 1000000 in
theorem isSorted_any (A : Option Addr) (n c : Nat) (xs : List (Int × Int)) (w : World) (hn : n = xs.length) (h : Rd pairE w.heap.size w A xs) (hb : n ≤ 1000000) (hs : srt ltP xs) :
    Calls Try.prog 16 #[.slice A n c, .func (.func 11) #[] #[]] w fun e w' => e = .returned (.bool true) ∧ Ext w w' := by
  replace hn := hide hn
  replace h := hide h
  replace hs := hide hs
  go_enter Try.func16, Try.ntmps16
  have e1 : IntKind.i64.wrap ((n : Int) - 1) = (n : Int) - 1 := IntWalk.i64_in _ (by omega)
  go_wp2
  go_loopw [5] (fun i wr => ∃ j : Int, -1 ≤ j ∧ j < (n : Int) ∧ i = .int .i64 j ∧ Below w.heap.size w wr) (fun i _ => (intOf i + 1).toNat)
  case atStart => exact ⟨(n : Int) - 1, by omega, by omega, rfl, Below.refl _ _⟩
  case round =>
    obtain ⟨j, hj1, hj2, rfl, hB⟩ := hrel
    obtain ⟨hc, hf⟩ := bcell hB
    have hsz := hB.size
    by_cases hlt : 0 < j
    · obtain ⟨k, hk⟩ : ∃ k : Nat, j = ((k + 1 : Nat) : Int) := ⟨(j - 1).toNat, by omega⟩
      have hkn : k + 1 < n := by omega
      obtain ⟨b, off, rfl, hr⟩ := h.out.at_ (i := k) (by rw [← hn.out]; omega)
      have hb1 := hr.1
      have hb' : b < wr.heap.size := by omega
      obtain ⟨⟨p1, p2⟩, hx⟩ := get_some (xs := xs) (i := k + 1) (by rw [← hn.out]; omega)
      obtain ⟨hx1, hx2⟩ := hr.pair hx
      obtain ⟨⟨q1, q2⟩, hy⟩ := get_some (xs := xs) (i := k) (by rw [← hn.out]; omega)
      obtain ⟨hy1, hy2⟩ := hr.pair hy
      have hord : ¬ p1 < q1 := by
        have := srt_step hs.out hy hx
        simp [ltP, ltI] at this
        omega
      have s1 : IntKind.i64.wrap (j - 1) = j - 1 := IntWalk.i64_in _ (by omega)
      have s2 : (0 : Int) ≤ j - 1 := by omega
      have s3 : (j - 1).toNat = k := by omega
      have s4 : (0 : Int) ≤ j := by omega
      have s5 : j.toNat = k + 1 := by omega
      have s6 : (1 : Int) ≤ j := by omega
      have s7 : j - 1 < (n : Int) := by omega
      have hcmp : ¬ cmpP (p1, p2) (q1, q2) < 0 := by simp [cmpP, cmpI]; (repeat' split) <;> omega
      replace hx := hide hx
      replace hy := hide hy
      replace hr := hide hr
      clear hk
      go_wp2
      refine wp_region_ext (by kernel_rfl) (by kernel_rfl) ?_
      iterate 10
        apply ext_step rfl
        · intro W hW
          have hcW := (bcell hW).1
          unfold Oper.quietAt
          go_simp
          exact rfl
        simp only [Act.put, List.setIfInBounds_toArray, List.set_cons_zero, List.set_cons_succ]
      apply ext_step rfl
      · intro W hW
        have hcW := (bcell hW).1
        unfold Oper.quietAt
        go_simp
        exact (keys_ext _ _ _ _ _).mono fun e w' h => ⟨h.1, hW.trans (h.2.mono hW.size)⟩
      simp only [Act.put, List.setIfInBounds_toArray, List.set_cons_zero, List.set_cons_succ]
      iterate 1
        apply ext_step rfl
        · intro W hW
          have hcW := (bcell hW).1
          unfold Oper.quietAt
          go_simp
          exact rfl
        simp only [Act.put, List.setIfInBounds_toArray, List.set_cons_zero, List.set_cons_succ]
      refine wpQuiet_nil (fun w1 hB1 => ?_)
      have hB2 := hB.trans (hB1.mono hB.size)
      go_wp2
      refine ⟨?_, ?_⟩
      · first
          | exact ⟨j - 1, by omega, by omega, by go_num, hB2⟩
          | ((repeat apply Exists.intro); exact ⟨⟨j - 1, by omega, by omega, by go_num, hB2⟩, rfl⟩)
      · first | (simp [intOf, lenV]; omega) | (simp [intOf]; omega)
    · go_wp2
      go_ret
      exact ⟨rfl, hB⟩

set_option maxHeartbeats 1000000 in
theorem wakesAsk_any (a b : Int) (w : World) : Calls Try.prog 34 #[.agg #[.int .i64 a, .int .i64 b]] w fun e w' => e = .returned (.int .i64 (wrap64 (a - 2))) ∧ Ext w w' := by
  go_enter Try.func34, Try.ntmps34
  go_wp2
  go_ret
  exact ⟨rfl, (Below.refl _ _).alloc (Nat.le_refl _) _⟩

set_option maxHeartbeats 1000000 in
theorem wakes_any (w : World) : Calls Try.prog 8 #[] w fun e w' => e = .returned (.bool true) ∧ Ext w w' := by
  go_enter Try.func8, Try.ntmps8
  go_wp2_with fail
  have r1 := rd_lit pairE 26 w [(2, 0), (1, 1), (2, 2)] #[.int .i64 2, .int .i64 0, .int .i64 1, .int .i64 1, .int .i64 2, .int .i64 2] rfl
  have hE0 : Ext w (w.alloc (.cells #[.int .i64 2, .int .i64 0, .int .i64 1, .int .i64 1, .int .i64 2, .int .i64 2] 26)) := (Below.refl _ _).alloc (Nat.le_refl _) _
  refine (sort_Pair _ 3 3 [(2, 0), (1, 1), (2, 2)] _ rfl (r1.more (by simp)) (by decide) (by decide)).mono ?_
  rintro e w1 ⟨v1, rfl, ho1, hE1⟩
  rw [show isort ltP [((2 : Int), (0 : Int)), (1, 1), (2, 2)] = [(1, 1), (2, 0), (2, 2)] by decide] at ho1
  obtain ⟨A1, c1, rfl, rd1, -, -⟩ := ho1.rd
  have hE2 : Ext w w1 := hE0.trans (hE1.mono hE0.size)
  replace ho1 := hide ho1
  replace rd1 := hide rd1
  replace r1 := hide r1
  obtain ⟨b, off, rfl, hr⟩ := rd1.out.at_ (i := 0) (by simp)
  obtain ⟨hx1, hx2⟩ := hr.pair0 (p := 1) (q := 1) rfl
  obtain ⟨hy1, hy2⟩ := hr.pair (i := 1) (p := 2) (q := 0) rfl
  obtain ⟨hz1, hz2⟩ := hr.pair (i := 2) (p := 2) (q := 2) rfl
  rw [Nat.one_mul] at hy1 hy2
  replace hr := hide hr
  go_wp2_with fail
  refine (find_Pair (some ⟨b, off, none⟩) 3 c1 34 #[] (fun x => wrap64 (x.1 - 2)) [(1, 1), (2, 0), (2, 2)] _ rfl rd1.out (by decide) ⟨fun args W => by simp [callFunc, show Try.prog.funcs[34]? = some Try.f34 from by kernel_rfl]; rfl, fun p1 p2 W _ => wakesAsk_any p1 p2 W⟩).mono ?_
  rintro e w2 ⟨k, hk, rfl, hE3⟩
  have k1 : wrap64 ((1 : Int) - 2) = -1 := by kernel_rfl
  have k2 : wrap64 ((2 : Int) - 2) = 0 := by kernel_rfl
  obtain rfl : k = 1 := by
    obtain ⟨h1, h2, h3⟩ := hk
    match k, h1 with
    | 0, _ => exact absurd (h3 (1, 1) rfl) (by simp only [k1]; decide)
    | 1, _ => rfl
    | 2, _ => exact absurd (h2 (2, 0) (by decide) rfl) (by simp only [k2]; decide)
    | 3, _ => exact absurd (h2 (2, 2) (by decide) rfl) (by simp only [k2]; decide)
  have hE4 := hE2.trans (hE3.mono hE2.size)
  obtain ⟨hc, hf⟩ := bcell hE3
  have hbb := hr.out.1
  go_wp2
  go_ret
  refine ⟨ret_bool ?_, hE4⟩
  have k0 : wrap64 (0 : Int) = 0 := by kernel_rfl
  simp [k0, k1, k2]
end Go.Proofs.Ytecfceabioajkaa
