/- The document's answers of layer 3: yardarmref03.Sort, Merge, Below, Unique, Least. -/
import Derived.Test.YtecfceabioajkaaFind
import Derived.Test.YtecfceabioajkaaLeast
namespace Go.Proofs.Ytecfceabioajkaa
open Go.RowKit

theorem count_one {α : Type} (p : α → Bool) (x : α) : [x].countP p = if p x = true then 1 else 0 := by simp [List.countP_cons]
set_option maxHeartbeats 1000000 in
theorem refBelow_any (A : Option Addr) (n c : Nat) (xs : List (Int × Int)) (m : Int) (w : World) (hn : n = xs.length) (h : Rd pairE w.heap.size w A xs) (hb : n ≤ 1000000) :
    Calls Try.prog 23 #[.slice A n c, .int .i64 m] w fun e w' => e = .returned (.int .i64 (xs.countP fun x => decide (x.1 < m))) ∧ Ext w w' := by
  replace hn := hide hn
  replace h := hide h
  go_enter Try.func23, Try.ntmps23
  go_wp2
  go_loopw [5, 10] (fun o i wr => ∃ k q : Nat, k ≤ n ∧ q ≤ k ∧ i = .int .i64 k ∧ o = .int .i64 q ∧ Hid (q = (xs.take k).countP fun x => decide (x.1 < m)) ∧ Below w.heap.size w wr) (fun _ i _ => n - (intOf i).toNat)
  case atStart => exact ⟨0, 0, by omega, by omega, rfl, rfl, hide (by simp), Below.refl _ _⟩
  case round =>
    obtain ⟨k, q, hk, hqk, rfl, rfl, hq, hB⟩ := hrel
    obtain ⟨hc, hf⟩ := bcell hB
    have hsz := hB.size
    by_cases hlt : k < n
    · obtain ⟨b, off, rfl, hra⟩ := h.out.at_ (i := k) (by rw [← hn.out]; exact hlt)
      have hb1 := hra.1
      obtain ⟨⟨p1, p2⟩, hx⟩ := get_some (i := k) (by rw [← hn.out]; exact hlt)
      obtain ⟨hx1, hx2⟩ := hra.pair hx
      replace hx := hide hx
      replace hra := hide hra
      have hq1 : Hid ((xs.take (k + 1)).countP (fun x => decide (x.1 < m)) = q + if p1 < m then 1 else 0) := hide (by rw [take_snoc hx.out, List.countP_append, ← hq.out]; rw [count_one]; simp only [decide_eq_true_eq])
      by_cases hpm : p1 < m
      · go_wp2
        refine ⟨?_, ?_⟩
        · first
            | exact ⟨k + 1, q + 1, by omega, by omega, by go_num, by go_num, hide (by rw [hq1.out, if_pos hpm]), hB.alloc hsz _⟩
            | ((repeat apply Exists.intro); exact ⟨⟨k + 1, q + 1, by omega, by omega, by go_num, by go_num, hide (by rw [hq1.out, if_pos hpm]), hB.alloc hsz _⟩, rfl⟩)
        · first | (simp [intOf, lenV]; omega) | (simp [intOf]; omega)
      · go_wp2
        refine ⟨?_, ?_⟩
        · first
            | exact ⟨k + 1, q, by omega, by omega, by go_num, by go_num, hide (by have := hq1.out; rw [if_neg (by omega)] at this; omega), hB.alloc hsz _⟩
            | ((repeat apply Exists.intro); exact ⟨⟨k + 1, q, by omega, by omega, by go_num, by go_num, hide (by have := hq1.out; rw [if_neg (by omega)] at this; omega), hB.alloc hsz _⟩, rfl⟩)
        · first | (simp [intOf, lenV]; omega) | (simp [intOf]; omega)
    · go_wp2
      go_ret
      refine ⟨ret_int ?_, hB⟩
      have := hq.out
      rw [List.take_of_length_le (by rw [← hn.out]; omega)] at this
      rw [this]

/-- the place of the least one; -1 where there is none -/
def leastOr (xs : List (Int × Int)) (n : Nat) : Int := if n = 0 then -1 else (leastTo ltP xs n : Int)

set_option maxHeartbeats 1000000 in
theorem refLeast_any (A : Option Addr) (n c : Nat) (xs : List (Int × Int)) (w : World) (hn : n = xs.length) (h : Rd pairE w.heap.size w A xs) (hb : n ≤ 1000000) :
    Calls Try.prog 18 #[.slice A n c] w fun e w' => e = .returned (.int .i64 (leastOr xs n)) ∧ Ext w w' := by
  replace hn := hide hn
  replace h := hide h
  go_enter Try.func18, Try.ntmps18
  go_wp2
  go_loopw [3, 8] (fun o i wr => ∃ (k : Nat) (q : Int), k ≤ n ∧ i = .int .i64 k ∧ o = .int .i64 q ∧ Hid (q = leastOr xs k) ∧ Below w.heap.size w wr) (fun _ i _ => n - (intOf i).toNat)
  case atStart => exact ⟨0, -1, by omega, rfl, rfl, hide rfl, Below.refl _ _⟩
  case round =>
    obtain ⟨k, q, hk, rfl, rfl, hq, hB⟩ := hrel
    obtain ⟨hc, hf⟩ := bcell hB
    have hsz := hB.size
    by_cases hlt : k < n
    · obtain ⟨b, off, rfl, hra⟩ := h.out.at_ (i := k) (by rw [← hn.out]; exact hlt)
      have hb1 := hra.1
      have hb' : b < wr.heap.size := by omega
      obtain ⟨⟨p1, p2⟩, hx⟩ := get_some (i := k) (by rw [← hn.out]; exact hlt)
      obtain ⟨hx1, hx2⟩ := hra.pair hx
      replace hx := hide hx
      have hk1 : (k : Int) < (n : Int) := by omega
      by_cases hk0 : k = 0
      · have hq0 : q = -1 := by rw [hq.out, leastOr, if_pos hk0]
        subst hq0
        have hfin : Hid ((k : Int) = leastOr xs (k + 1)) := hide (by
          subst hk0
          rw [leastOr, if_neg (by omega), leastTo_succ (m := 0) rfl hx.out hx.out]
          simp)
        replace hra := hide hra
        clear hk0 hq
        go_wp2
        refine wp_region_reads [(0, true), (1, true), (2, true), (3, true), (4, true), (5, true), (6, true), (7, true), (8, true), (9, true), (10, true), (11, true)] (by kernel_rfl) (by kernel_rfl) (by kernel_rfl) (by kernel_rfl) (fun _ _ d _ _ h => by cases d <;> exact h) ?_
        iterate 3
          apply mix_q rfl rfl
          · intro W hW
            subst hW
            go_simp
            try exact rfl
          simp only [Act.put, List.setIfInBounds_toArray, List.set_cons_zero, List.set_cons_succ]
        iterate 8
          refine mix_off rfl (wanted_is rfl rfl rfl rfl rfl) ?_
          simp only [Act.put, List.setIfInBounds_toArray, List.set_cons_zero, List.set_cons_succ]
        iterate 1
          apply mix_q rfl rfl
          · intro W hW
            subst hW
            go_simp
            try exact rfl
          simp only [Act.put, List.setIfInBounds_toArray, List.set_cons_zero, List.set_cons_succ]
        refine mix_nil ?_
        go_wp2
        refine ⟨?_, ?_⟩
        · first
            | exact ⟨k + 1, (k : Int), by omega, by go_num, rfl, hfin, (hB.alloc hsz _).drew⟩
            | ((repeat apply Exists.intro); exact ⟨⟨k + 1, (k : Int), by omega, by go_num, rfl, hfin, (hB.alloc hsz _).drew⟩, rfl⟩)
        · first | (simp [intOf, lenV]; omega) | (simp [intOf]; omega)
      · obtain ⟨m, hm⟩ : ∃ m : Nat, q = (m : Int) := ⟨leastTo ltP xs k, by rw [hq.out, leastOr, if_neg hk0]⟩
        subst hm
        have hmm : m = leastTo ltP xs k := by have := hq.out; rw [leastOr, if_neg hk0] at this; omega
        have hml : m < n := by rw [hmm]; exact leastTo_lt _ hlt
        obtain ⟨⟨q1, q2⟩, hy⟩ := get_some (xs := xs) (i := m) (by rw [← hn.out]; exact hml)
        obtain ⟨hy1, hy2⟩ := hra.pair hy
        replace hy := hide hy
        have hs := hide (leastTo_succ hmm hx.out hy.out)
        have hm0 : (0 : Int) ≤ (m : Int) := by omega
        have hm1 : (m : Int) < (n : Int) := by omega
        replace hra := hide hra
        replace hmm := hide hmm
        clear hq
        go_wp2
        refine wp_region_reads [(0, true), (1, true), (2, true), (3, true), (4, true), (5, true), (6, true), (7, true), (8, true), (9, true), (10, true), (11, true)] (by kernel_rfl) (by kernel_rfl) (by kernel_rfl) (by kernel_rfl) (fun _ _ d _ _ h => by cases d <;> exact h) ?_
        iterate 3
          apply mix_q rfl rfl
          · intro W hW
            subst hW
            go_simp
            try exact rfl
          simp only [Act.put, List.setIfInBounds_toArray, List.set_cons_zero, List.set_cons_succ]
        iterate 8
          apply mix_on rfl (wanted_is rfl rfl rfl rfl rfl)
          · intro W hW
            subst hW
            go_simp
            try exact rfl
          simp only [Act.put, List.setIfInBounds_toArray, List.set_cons_zero, List.set_cons_succ]
        iterate 1
          apply mix_q rfl rfl
          · intro W hW
            subst hW
            go_simp
            try exact rfl
          simp only [Act.put, List.setIfInBounds_toArray, List.set_cons_zero, List.set_cons_succ]
        refine mix_nil ?_
        by_cases hpq : p1 < q1
        · go_wp2
          refine ⟨?_, ?_⟩
          · first
              | exact ⟨k + 1, (k : Int), by omega, by go_num, rfl, hide (by rw [leastOr, if_neg (by omega), hs.out, if_pos (by simp [ltP, ltI, hpq])]), (hB.alloc hsz _).drew⟩
              | ((repeat apply Exists.intro); exact ⟨⟨k + 1, (k : Int), by omega, by go_num, rfl, hide (by rw [leastOr, if_neg (by omega), hs.out, if_pos (by simp [ltP, ltI, hpq])]), (hB.alloc hsz _).drew⟩, rfl⟩)
          · first | (simp [intOf, lenV]; omega) | (simp [intOf]; omega)
        · go_wp2
          refine ⟨?_, ?_⟩
          · first
              | exact ⟨k + 1, (m : Int), by omega, by go_num, rfl, hide (by rw [leastOr, if_neg (by omega), hs.out, if_neg (by simp [ltP, ltI]; omega)]), (hB.alloc hsz _).drew⟩
              | ((repeat apply Exists.intro); exact ⟨⟨k + 1, (m : Int), by omega, by go_num, rfl, hide (by rw [leastOr, if_neg (by omega), hs.out, if_neg (by simp [ltP, ltI]; omega)]), (hB.alloc hsz _).drew⟩, rfl⟩)
          · first | (simp [intOf, lenV]; omega) | (simp [intOf]; omega)
    · have hkn : n = k := by omega
      go_wp2
      go_ret
      refine ⟨ret_int ?_, hB⟩
      rw [hkn]
      exact hq.out

@[go_sem high] theorem eql_Pair (w : World) (a b p q : Int) : (binOp .eql 26 (.agg #[.int .i64 a, .int .i64 b]) (.agg #[.int .i64 p, .int .i64 q])).run Try.prog w = .ok (.bool (!neP (a, b) (p, q))) w := by
  by_cases h1 : a = p <;> by_cases h2 : b = q <;> simp [go_sem, h1, h2, neP]

theorem neP_symm (x y : Int × Int) : neP x y = neP y x := by
  by_cases h : x = y
  · subst h; rfl
  · have e : (x == y) = (y == x) := by rw [beq_eq_false_iff_ne.2 h, beq_eq_false_iff_ne.2 (fun e => h e.symm)]
    simp only [neP, bne, e]
set_option maxHeartbeats 2000000 in
theorem refUnique_any (A : Option Addr) (n c : Nat) (xs : List (Int × Int)) (w : World) (hn : n = xs.length) (h : Rd pairE w.heap.size w A xs) (hb : n ≤ 1000000) :
    Calls Try.prog 20 #[.slice A n c] w fun e w' => ∃ v, e = .returned v ∧ Own pairE 26 w.heap.size w' v (uniq neP xs) ∧ Ext w w' := by
  replace hn := hide hn
  replace h := hide h
  go_enter Try.func20, Try.ntmps20
  go_wp2
  go_loopw [3, 8] (fun o i wr => ∃ k : Nat, k ≤ n ∧ i = .int .i64 k ∧ Hid (Own pairE 26 w.heap.size wr o (uniq neP (xs.take k))) ∧ Below w.heap.size w wr) (fun _ i _ => n - (intOf i).toNat)
  case atStart => exact ⟨0, by omega, rfl, hide Own.nil_, Below.refl _ _⟩
  case round =>
    obtain ⟨k, hk, rfl, hown, hB⟩ := hrel
    obtain ⟨hc, hf⟩ := bcell hB
    have hsz := hB.size
    by_cases hlt : k < n
    · obtain ⟨b, off, rfl, hra⟩ := h.out.at_ (i := k) (by rw [← hn.out]; exact hlt)
      have hb1 := hra.1
      obtain ⟨⟨p1, p2⟩, hx⟩ := get_some (i := k) (by rw [← hn.out]; exact hlt)
      obtain ⟨hx1, hx2⟩ := hra.pair hx
      replace hx := hide hx
      have hk1 : (k : Int) < (n : Int) := by omega
      have hul : (uniq neP (xs.take k)).length ≤ 1000000 := by have := uniq_len neP (xs.take k); rw [List.length_take] at this; omega
      have hb' : b < wr.heap.size := by omega
      by_cases hk0 : k = 0
      · have hkB : ¬ (0 : Int) < (k : Int) := by omega
        have hkd : decide ((0 : Int) < (k : Int)) = false := by simp; omega
        have hkd' : decide (0 < k) = false := by simp; omega
        have hu0 : uniq neP (xs.take k ++ [(p1, p2)]) = uniq neP (xs.take k) ++ [(p1, p2)] := by rw [hk0]; simp [uniq]
        replace hu0 := hide hu0
        replace hra := hide hra
        clear hk0
        go_wp2
        refine wp_region_reads [(0, true), (1, true), (2, true), (3, true), (4, true), (5, true), (6, true), (7, true), (8, true), (9, true), (10, true)] (by kernel_rfl) (by kernel_rfl) (by kernel_rfl) (by kernel_rfl) (fun _ _ d _ _ h => by cases d <;> exact h) ?_
        iterate 3
          apply mix_q rfl rfl
          · intro W hW
            subst hW
            go_simp
            try exact rfl
          simp only [Act.put, List.setIfInBounds_toArray, List.set_cons_zero, List.set_cons_succ]
        iterate 7
          refine mix_off rfl (wanted_is rfl rfl rfl rfl rfl) ?_
          simp only [Act.put, List.setIfInBounds_toArray, List.set_cons_zero, List.set_cons_succ]
        iterate 1
          apply mix_q rfl rfl
          · intro W hW
            subst hW
            go_simp
            try exact rfl
          simp only [Act.put, List.setIfInBounds_toArray, List.set_cons_zero, List.set_cons_succ]
        refine mix_nil ?_
        go_wp2_with (at_builtin; (refine wpList_app (ys := [(p1, p2)]) tyPair rfl (.tmp 24) (.tmp 26) rfl rfl (((hown.out.alloc (.cells #[.int .i64 p1, .int .i64 p2] 26)).alloc _).drew) rfl (Rd.drew (rd_newAt pairE (wr.alloc (.cells #[.int .i64 p1, .int .i64 p2] 26)) (p1, p2) (wr.heap.size + 1) (by simp))) rfl (by first | omega | (simp only [List.length_cons, List.length_nil]; omega) | (simp; omega)) (by first | omega | (simp only [World.size_alloc, World.size_drew]; omega)) ?_))
        intro v3 w3 hown3 hg3 _ _
        have hoA := ((hown.out.alloc (.cells #[.int .i64 p1, .int .i64 p2] 26)).alloc (.cells #[.int .i64 p1, .int .i64 p2] 26)).drew
        have hB3 : Below w.heap.size w w3 := hoA.below ((hB.alloc hsz _).alloc (by simp; omega) _).drew hg3 (by simp; omega)
        replace hown3 := hide hown3
        clear hoA hg3
        go_wp2
        refine ⟨?_, ?_⟩
        · first
            | exact ⟨k + 1, by omega, by go_num, hide (by rw [take_snoc hx.out, hu0.out]; exact hown3.out), hB3⟩
            | ((repeat apply Exists.intro); exact ⟨⟨k + 1, by omega, by go_num, hide (by rw [take_snoc hx.out, hu0.out]; exact hown3.out), hB3⟩, rfl⟩)
        · first | (simp [intOf, lenV]; omega) | (simp [intOf]; omega)
      · have hkB : (0 : Int) < (k : Int) := by omega
        have hkd : decide ((0 : Int) < (k : Int)) = true := by simp; omega
        have hkd' : 0 < k := by omega
        obtain ⟨⟨q1, q2⟩, hy⟩ := get_some (xs := xs) (i := k - 1) (by rw [← hn.out]; omega)
        obtain ⟨hy1, hy2⟩ := hra.pair hy
        replace hy := hide hy
        have s1 : IntKind.i64.wrap ((k : Int) - 1) = (k : Int) - 1 := IntWalk.i64_in _ (by omega)
        have s2 : (0 : Int) ≤ (k : Int) - 1 := by omega
        have s3 : ((k : Int) - 1).toNat = k - 1 := by omega
        have s4 : (k : Int) - 1 < (n : Int) := by omega
        have s5 : (1 : Int) ≤ (k : Int) := by omega
        have hlast := hide (uniq_last neP neP_cong (xs.take k) (q1, q2) (by
          have := hy.out
          rw [List.getLast?_eq_getElem?, List.length_take, Nat.min_eq_left (by rw [← hn.out]; omega), List.getElem?_take, if_pos (by omega)]
          exact this))
        have hsym : neP (p1, p2) (q1, q2) = neP (q1, q2) (p1, p2) := neP_symm _ _
        replace hsym := hide hsym
        replace hra := hide hra
        go_wp2
        refine wp_region_reads [(0, true), (1, true), (2, true), (3, true), (4, true), (5, true), (6, true), (7, true), (8, true), (9, true), (10, true)] (by kernel_rfl) (by kernel_rfl) (by kernel_rfl) (by kernel_rfl) (fun _ _ d _ _ h => by cases d <;> exact h) ?_
        iterate 3
          apply mix_q rfl rfl
          · intro W hW
            subst hW
            go_simp
            try exact rfl
          simp only [Act.put, List.setIfInBounds_toArray, List.set_cons_zero, List.set_cons_succ]
        iterate 7
          apply mix_on rfl (wanted_is rfl rfl rfl rfl rfl)
          · intro W hW
            subst hW
            go_simp
            try exact rfl
          simp only [Act.put, List.setIfInBounds_toArray, List.set_cons_zero, List.set_cons_succ]
        iterate 1
          apply mix_q rfl rfl
          · intro W hW
            subst hW
            go_simp
            try exact rfl
          simp only [Act.put, List.setIfInBounds_toArray, List.set_cons_zero, List.set_cons_succ]
        refine mix_nil ?_
        cases hne : neP (p1, p2) (q1, q2)
        · go_wp2
          refine ⟨?_, ?_⟩
          · first
              | exact ⟨k + 1, by omega, by go_num, hide (by rw [take_snoc hx.out, uniq_snoc]; obtain ⟨y, h1, h2⟩ := hlast.out; rw [h1]; simp only [h2 (p1, p2), ← hsym.out, hne]; exact hown.out.alloc _), (hB.alloc hsz _).drew⟩
              | ((repeat apply Exists.intro); exact ⟨⟨k + 1, by omega, by go_num, hide (by rw [take_snoc hx.out, uniq_snoc]; obtain ⟨y, h1, h2⟩ := hlast.out; rw [h1]; simp only [h2 (p1, p2), ← hsym.out, hne]; exact hown.out.alloc _), (hB.alloc hsz _).drew⟩, rfl⟩)
          · first | (simp [intOf, lenV]; omega) | (simp [intOf]; omega)
        · go_wp2_with (at_builtin; (refine wpList_app (ys := [(p1, p2)]) tyPair rfl (.tmp 24) (.tmp 26) rfl rfl (((hown.out.alloc (.cells #[.int .i64 p1, .int .i64 p2] 26)).alloc _).drew) rfl (Rd.drew (rd_newAt pairE (wr.alloc (.cells #[.int .i64 p1, .int .i64 p2] 26)) (p1, p2) (wr.heap.size + 1) (by simp))) rfl (by first | omega | (simp only [List.length_cons, List.length_nil]; omega) | (simp; omega)) (by first | omega | (simp only [World.size_alloc, World.size_drew]; omega)) ?_))
          intro v3 w3 hown3 hg3 _ _
          have hoA := ((hown.out.alloc (.cells #[.int .i64 p1, .int .i64 p2] 26)).alloc (.cells #[.int .i64 p1, .int .i64 p2] 26)).drew
          have hB3 : Below w.heap.size w w3 := hoA.below ((hB.alloc hsz _).alloc (by simp; omega) _).drew hg3 (by simp; omega)
          replace hown3 := hide hown3
          clear hoA hg3
          go_wp2
          refine ⟨?_, ?_⟩
          · first
              | exact ⟨k + 1, by omega, by go_num, hide (by rw [take_snoc hx.out, uniq_snoc]; obtain ⟨y, h1, h2⟩ := hlast.out; rw [h1]; simp only [h2 (p1, p2), ← hsym.out, hne]; exact hown3.out), hB3⟩
              | ((repeat apply Exists.intro); exact ⟨⟨k + 1, by omega, by go_num, hide (by rw [take_snoc hx.out, uniq_snoc]; obtain ⟨y, h1, h2⟩ := hlast.out; rw [h1]; simp only [h2 (p1, p2), ← hsym.out, hne]; exact hown3.out), hB3⟩, rfl⟩)
          · first | (simp [intOf, lenV]; omega) | (simp [intOf]; omega)
    · have hkn : k = n := by omega
      go_wp2
      go_ret
      refine ⟨_, rfl, ?_, hB⟩
      have := hown.out
      rw [List.take_of_length_le (by rw [← hn.out]; omega)] at this
      exact this

theorem ins_at {α : Type} {lt : α → α → Bool} {x : α} : ∀ (zs : List α) (k : Nat), k ≤ zs.length → (∀ i, i < k → ∀ y, zs[i]? = some y → lt x y = false) → (∀ y, zs[k]? = some y → lt x y = true) →
    ins lt x zs = zs.take k ++ x :: zs.drop k
  | [], k, hk, _, _ => by
    have : k = 0 := by simpa using hk
    subst this
    rfl
  | y :: zs, 0, _, _, h2 => by
    have := h2 y rfl
    simp [ins, this]
  | y :: zs, k + 1, hk, h1, h2 => by
    have hy := h1 0 (by omega) y rfl
    simp only [ins, hy, Bool.false_eq_true, if_false, List.take_succ_cons, List.drop_succ_cons, List.cons_append]
    rw [ins_at zs k (by simpa using hk) (fun i hi u hu => h1 (i + 1) (by omega) u (by simpa using hu)) (fun u hu => h2 u (by simpa using hu))]

theorem Own.kept_new {α : Type} {E : El α} {e : TypeId} {base : Nat} {w1 w' : World} {v : Value} {xs : List α} {o : Obj} (h : Own E e base w1 v xs) {g : Option Nat} (hg : ((w1.alloc o).drew.drew).grownBy w' g) (hgb : g = some w1.heap.size) : Own E e base w' v xs := by
  refine ((h.alloc o).drew.drew).kept hg ?_
  subst hgb
  cases hv : v.ownBlock with
  | none => exact .inl rfl
  | some k =>
    refine .inr fun he => ?_
    injection he with he
    have := (h.lt k hv).2
    omega

set_option maxHeartbeats 2000000 in
theorem refSort_any (A : Option Addr) (n c : Nat) (xs : List (Int × Int)) (w : World) (hn : n = xs.length) (h : Rd pairE w.heap.size w A xs) (hb : n ≤ 1000000) :
    Calls Try.prog 13 #[.slice A n c] w fun e w' => ∃ v, e = .returned v ∧ Own pairE 26 w.heap.size w' v (isort ltP xs) ∧ Ext w w' := by
  replace hn := hide hn
  replace h := hide h
  go_enter Try.func13, Try.ntmps13
  go_wp2
  go_loopw [3, 9] (fun o i wr => ∃ (k : Nat) (R : Option Addr) (rn rc : Nat), k ≤ n ∧ i = .int .i64 k ∧ o = .slice R rn rc ∧ Hid (rn = k) ∧ Hid (Own pairE 26 w.heap.size wr (.slice R rn rc) (isort ltP (xs.take k))) ∧ Below w.heap.size w wr) (fun _ i _ => n - (intOf i).toNat)
  case atStart => exact ⟨0, none, 0, 0, by omega, rfl, rfl, hide rfl, hide Own.nil_, Below.refl _ _⟩
  case round =>
    obtain ⟨k, R, rn, rc, hk, rfl, rfl, hrn, hown, hB⟩ := hrel
    obtain ⟨hc, hf⟩ := bcell hB
    have hsz := hB.size
    by_cases hlt : k < n
    · obtain ⟨b, off, rfl, hra⟩ := h.out.at_ (i := k) (by rw [← hn.out]; exact hlt)
      have hb1 := hra.1
      obtain ⟨⟨p1, p2⟩, hx⟩ := get_some (i := k) (by rw [← hn.out]; exact hlt)
      obtain ⟨hx1, hx2⟩ := hra.pair hx
      replace hx := hide hx
      replace hra := hide hra
      have hk1 : (k : Int) < (n : Int) := by omega
      obtain ⟨R', rc', eR, rR, hrc, _⟩ := hown.out.rd
      injection eR with eR1 eR2 eR3
      subst eR1 eR3
      have hrl : (isort ltP (xs.take k)).length = rn := eR2.symm
      clear eR2
      have hrc' : rn ≤ rc := by omega
      have hrn' : rn ≤ 1000000 := by rw [hrn.out]; omega
      obtain ⟨zs, hzs⟩ : ∃ l, l = isort ltP (xs.take k) := ⟨_, rfl⟩
      rw [← hzs] at hown rR hrl
      replace hrl := hide hrl
      replace hzs := hide hzs
      replace rR := hide rR
      obtain ⟨wo, rfl⟩ : ∃ wo : World, wo = wr := ⟨_, rfl⟩
      go_wp2
      go_loopw [6] (fun i wi => ∃ at_ : Nat, at_ ≤ rn ∧ i = .int .i64 at_ ∧ Hid (∀ j, j < at_ → ∀ y, zs[j]? = some y → ltP (p1, p2) y = false) ∧ Ext (wo.alloc (.cells #[.int .i64 p1, .int .i64 p2] 26)) wi) (fun i _ => rn - (intOf i).toNat)
      case atStart => exact ⟨0, Nat.zero_le _, rfl, hide (fun j hj => by omega), Below.refl _ _⟩
      case round =>
        obtain ⟨wi, rfl⟩ : ∃ wi : World, wi = wr := ⟨_, rfl⟩
        obtain ⟨at_, hat, rfl, hall, hE⟩ := hrel
        have hA : Ext wo (wo.alloc (.cells #[.int .i64 p1, .int .i64 p2] 26)) := (Below.refl _ _).alloc (Nat.le_refl _) _
        have hEo : Ext wo wi := hA.trans (hE.mono (by simp))
        have hxc1 : wi.cell? ⟨wo.heap.size, 0, none⟩ = some (.int .i64 p1) := (hE.cell (p := ⟨wo.heap.size, 0, none⟩) (by simp)).trans (by simp)
        have hxc2 : wi.cell? ⟨wo.heap.size, 1, none⟩ = some (.int .i64 p2) := (hE.cell (p := ⟨wo.heap.size, 1, none⟩) (by simp)).trans (by simp)
        have hBi := hB.trans (hEo.mono hsz)
        have hszw : w.heap.size ≤ wi.heap.size := hBi.size
        have ownI := hown.out.ext hEo
        have rdI := rR.out.ext hEo
        replace ownI := hide ownI
        replace rdI := hide rdI
        by_cases hlt2 : at_ < rn
        · obtain ⟨b2, off2, rfl, hr2⟩ := rdI.out.at_ (i := at_) (by rw [hrl.out]; exact hlt2)
          obtain ⟨⟨y1, y2⟩, hy⟩ := get_some (xs := zs) (i := at_) (by rw [hrl.out]; exact hlt2)
          obtain ⟨hy1, hy2⟩ := hr2.pair hy
          have hat1 : (at_ : Int) < (rn : Int) := by omega
          have hatd : decide ((at_ : Int) < (rn : Int)) = true := by simp; omega
          replace hy := hide hy
          replace hr2 := hide hr2
          go_wp2
          refine wp_region_reads [(0, true), (1, true), (2, true), (3, true), (4, true), (5, true), (6, true), (7, true), (8, true), (9, true), (10, true), (11, true), (12, true), (13, true)] (by kernel_rfl) (by kernel_rfl) (by kernel_rfl) (by kernel_rfl) (fun _ _ d _ _ h => by cases d <;> exact h) ?_
          iterate 5
            apply mix_q rfl rfl
            · intro W hW
              subst hW
              go_simp
              try exact rfl
            simp only [Act.put, List.setIfInBounds_toArray, List.set_cons_zero, List.set_cons_succ]
          iterate 8
            apply mix_on rfl (wanted_is rfl rfl rfl rfl rfl)
            · intro W hW
              subst hW
              go_simp
              try exact rfl
            simp only [Act.put, List.setIfInBounds_toArray, List.set_cons_zero, List.set_cons_succ]
          iterate 1
            apply mix_q rfl rfl
            · intro W hW
              subst hW
              go_simp
              try exact rfl
            simp only [Act.put, List.setIfInBounds_toArray, List.set_cons_zero, List.set_cons_succ]
          refine mix_nil ?_
          by_cases hle : y1 ≤ p1
          · have hall2 : Hid (∀ j, j < at_ + 1 → ∀ y, zs[j]? = some y → ltP (p1, p2) y = false) := hide (fun j hj u hu => by
              rcases Nat.lt_or_ge j at_ with h1 | h1
              · exact hall.out j h1 u hu
              · obtain rfl : j = at_ := by omega
                rw [hy.out] at hu; cases hu; simp [ltP, ltI]; omega)
            go_wp2
            refine ⟨?_, ?_⟩
            · first
                | exact ⟨at_ + 1, by omega, by go_num, hall2, hE.drew⟩
                | ((repeat apply Exists.intro); exact ⟨⟨at_ + 1, by omega, by go_num, hall2, hE.drew⟩, rfl⟩)
            · first | (simp [intOf, lenV]; omega) | (simp [intOf]; omega)
          · have hstop : Hid (∀ y, zs[at_]? = some y → ltP (p1, p2) y = true) := hide (fun u hu => by rw [hy.out] at hu; cases hu; simp [ltP, ltI]; omega)
            have hat0 : at_ ≤ rn := hat
            have hrcat : at_ ≤ rc := by omega
            go_wp2
            refine wp_region_mix (fun _ => True) [(0, true), (1, true), (2, true), (5, true), (6, true), (7, true), (3, false), (4, false), (8, false), (9, false), (10, true)] (by kernel_rfl) (by kernel_rfl) (by kernel_rfl) (by kernel_rfl) (fun _ _ d _ _ h => by cases d <;> exact h) trivial ?_
            iterate 6
              apply mix_q rfl rfl
              · intro W _
                go_simp
                try exact rfl
              simp only [Act.put, List.setIfInBounds_toArray, List.set_cons_zero, List.set_cons_succ]
            iterate 2
              refine mix_w rfl rfl (fun K hK => ?_)
              go_simp
              refine hK _ _ trivial ?_
              clear hK K
              try simp only [Act.put, List.setIfInBounds_toArray, List.set_cons_zero, List.set_cons_succ]
            refine mix_w rfl rfl (fun K hK => ?_)
            refine wp_app tyPair _ _ rfl rfl ((own_new (base := w.heap.size) pairE wi (p1, p2) wi.heap.size rfl hszw).drew.drew) rfl ((hr2.out.cut (k := at_) (c := rc) (by rw [hrl.out]; exact hrc')).below ((Below.refl _ _).alloc (Nat.le_refl _) _).drew.drew) (by simp [← hrl.out]) (by have := hrl.out; simp; omega) (by simp; omega) ?_
            intro v3 w3 hown3 hg3 _ _
            obtain ⟨A3, c3, rfl, rd3, -, -⟩ := hown3.rd
            refine hK _ _ trivial ?_
            clear hK K
            try simp only [Act.put, List.setIfInBounds_toArray, List.set_cons_zero, List.set_cons_succ]
            have hown4 : Own pairE 26 w.heap.size w3 (.slice _ at_ rc) (zs.take at_) := (ownI.out.take hat0).kept_new hg3 rfl
            refine mix_w rfl rfl (fun K hK => ?_)
            refine wp_app tyPair _ _ rfl rfl hown4 rfl rd3 rfl (by have := hrl.out; simp; omega) (by have := hg3.size; simp at this; omega) ?_
            intro v4 w4 hown5 hg4 _ _
            obtain ⟨A4, c4, rfl, -, -, -⟩ := hown5.rd
            have hB4 : Below w.heap.size w w4 := hown4.below (((own_new (base := w.heap.size) pairE wi (p1, p2) wi.heap.size rfl hszw).drew.drew).below (hBi.alloc hszw _).drew.drew hg3 (by simp; omega)) hg4 (by have := hg3.size; simp at this; omega)
            refine hK _ _ trivial ?_
            clear hK K
            try simp only [Act.put, List.setIfInBounds_toArray, List.set_cons_zero, List.set_cons_succ]
            iterate 1
              apply mix_q rfl rfl
              · intro W _
                go_simp
                try exact rfl
              simp only [Act.put, List.setIfInBounds_toArray, List.set_cons_zero, List.set_cons_succ]
            refine mix_nil ?_
            obtain ⟨rn', hrn'⟩ : ∃ m, m = (zs.take at_ ++ ([(p1, p2)] ++ zs.drop at_)).length := ⟨_, rfl⟩
            rw [← hrn'] at hown5
            have hrn'' := hide hrn'
            have hrn4 : Hid (rn' = k + 1) := hide (by rw [hrn', ← hrn.out]; have := hrl.out; simp; omega)
            have hown6 : Hid (Own pairE 26 w.heap.size w4 (.slice A4 rn' c4) (isort ltP (xs.take (k + 1)))) := hide (by
              rw [take_snoc hx.out, isort_snoc, ← hzs.out, ins_at zs at_ (by rw [hrl.out]; omega) hall.out hstop.out]
              exact hown5)
            clear hown5 hrn' hown4 hown3 rd3 hg3 hg4
            go_wp2
            refine ⟨?_, ?_⟩
            · refine ⟨k + 1, A4, rn', c4, by omega, by go_num, by rw [hrn''.out]; simp, hrn4, hown6, hB4⟩
            · first | (simp [intOf, lenV]; omega) | (simp [intOf]; omega)
        · have hat1 : ¬ (at_ : Int) < (rn : Int) := by omega
          have hatd : decide ((at_ : Int) < (rn : Int)) = false := by simp; omega
          have hstop : Hid (∀ y, zs[at_]? = some y → ltP (p1, p2) y = true) := hide (fun u hu => by have := (List.getElem?_eq_some_iff.1 hu).1; rw [hrl.out] at this; omega)
          have hat0 : at_ ≤ rn := hat
          have hrcat : at_ ≤ rc := by omega
          go_wp2
          refine wp_region_reads [(0, true), (1, true), (2, true), (3, true), (4, true), (5, true), (6, true), (7, true), (8, true), (9, true), (10, true), (11, true), (12, true), (13, true)] (by kernel_rfl) (by kernel_rfl) (by kernel_rfl) (by kernel_rfl) (fun _ _ d _ _ h => by cases d <;> exact h) ?_
          iterate 5
            apply mix_q rfl rfl
            · intro W hW
              subst hW
              go_simp
              try exact rfl
            simp only [Act.put, List.setIfInBounds_toArray, List.set_cons_zero, List.set_cons_succ]
          iterate 8
            refine mix_off rfl (wanted_is rfl rfl rfl rfl rfl) ?_
            simp only [Act.put, List.setIfInBounds_toArray, List.set_cons_zero, List.set_cons_succ]
          iterate 1
            apply mix_q rfl rfl
            · intro W hW
              subst hW
              go_simp
              try exact rfl
            simp only [Act.put, List.setIfInBounds_toArray, List.set_cons_zero, List.set_cons_succ]
          refine mix_nil ?_
          go_wp2
          refine wp_region_mix (fun _ => True) [(0, true), (1, true), (2, true), (5, true), (6, true), (7, true), (3, false), (4, false), (8, false), (9, false), (10, true)] (by kernel_rfl) (by kernel_rfl) (by kernel_rfl) (by kernel_rfl) (fun _ _ d _ _ h => by cases d <;> exact h) trivial ?_
          iterate 6
            apply mix_q rfl rfl
            · intro W _
              go_simp
              try exact rfl
            simp only [Act.put, List.setIfInBounds_toArray, List.set_cons_zero, List.set_cons_succ]
          iterate 2
            refine mix_w rfl rfl (fun K hK => ?_)
            go_simp
            refine hK _ _ trivial ?_
            clear hK K
            try simp only [Act.put, List.setIfInBounds_toArray, List.set_cons_zero, List.set_cons_succ]
          refine mix_w rfl rfl (fun K hK => ?_)
          refine wp_app tyPair _ _ rfl rfl ((own_new (base := w.heap.size) pairE wi (p1, p2) wi.heap.size rfl hszw).drew.drew) rfl ((show Rd pairE wi.heap.size wi _ (zs.drop at_) from .inl (List.drop_eq_nil_of_le (by rw [hrl.out]; omega))).below ((Below.refl _ _).alloc (Nat.le_refl _) _).drew.drew) (by simp [← hrl.out]) (by have := hrl.out; simp; omega) (by simp; omega) ?_
          intro v3 w3 hown3 hg3 _ _
          obtain ⟨A3, c3, rfl, rd3, -, -⟩ := hown3.rd
          refine hK _ _ trivial ?_
          clear hK K
          try simp only [Act.put, List.setIfInBounds_toArray, List.set_cons_zero, List.set_cons_succ]
          have hown4 : Own pairE 26 w.heap.size w3 (.slice _ at_ rc) (zs.take at_) := (ownI.out.take hat0).kept_new hg3 rfl
          refine mix_w rfl rfl (fun K hK => ?_)
          refine wp_app tyPair _ _ rfl rfl hown4 rfl rd3 rfl (by have := hrl.out; simp; omega) (by have := hg3.size; simp at this; omega) ?_
          intro v4 w4 hown5 hg4 _ _
          obtain ⟨A4, c4, rfl, -, -, -⟩ := hown5.rd
          have hB4 : Below w.heap.size w w4 := hown4.below (((own_new (base := w.heap.size) pairE wi (p1, p2) wi.heap.size rfl hszw).drew.drew).below (hBi.alloc hszw _).drew.drew hg3 (by simp; omega)) hg4 (by have := hg3.size; simp at this; omega)
          refine hK _ _ trivial ?_
          clear hK K
          try simp only [Act.put, List.setIfInBounds_toArray, List.set_cons_zero, List.set_cons_succ]
          iterate 1
            apply mix_q rfl rfl
            · intro W _
              go_simp
              try exact rfl
            simp only [Act.put, List.setIfInBounds_toArray, List.set_cons_zero, List.set_cons_succ]
          refine mix_nil ?_
          obtain ⟨rn', hrn'⟩ : ∃ m, m = (zs.take at_ ++ ([(p1, p2)] ++ zs.drop at_)).length := ⟨_, rfl⟩
          rw [← hrn'] at hown5
          have hrn'' := hide hrn'
          have hrn4 : Hid (rn' = k + 1) := hide (by rw [hrn', ← hrn.out]; have := hrl.out; simp; omega)
          have hown6 : Hid (Own pairE 26 w.heap.size w4 (.slice A4 rn' c4) (isort ltP (xs.take (k + 1)))) := hide (by
            rw [take_snoc hx.out, isort_snoc, ← hzs.out, ins_at zs at_ (by rw [hrl.out]; omega) hall.out hstop.out]
            exact hown5)
          clear hown5 hrn' hown4 hown3 rd3 hg3 hg4
          go_wp2
          refine ⟨?_, ?_⟩
          · refine ⟨k + 1, A4, rn', c4, by omega, by go_num, by rw [hrn''.out]; simp, hrn4, hown6, hB4⟩
          · first | (simp [intOf, lenV]; omega) | (simp [intOf]; omega)
    · have hkn : n = k := by omega
      go_wp2
      go_ret
      refine ⟨_, rfl, ?_, hB⟩
      have := hown.out
      rw [List.take_of_length_le (by rw [← hn.out]; omega)] at this
      exact this
end Go.Proofs.Ytecfceabioajkaa
