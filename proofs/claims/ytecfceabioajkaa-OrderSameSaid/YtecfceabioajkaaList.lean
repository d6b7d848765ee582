/- The small functions on rows: slices.Clone, slices.Equal, order.Unique, order.Find; yardarmlaw03.few. -/
import Derived.Test.YtecfceabioajkaaMerge
namespace Go.Proofs.Ytecfceabioajkaa
open Go.RowKit

theorem own_empty {α : Type} {E : El α} (w : World) (e : TypeId) {base : Nat} (hb : base ≤ w.heap.size) : Own E e base (w.alloc (.cells #[] e)) (.slice (some ⟨w.heap.size, 0, none⟩) 0 0) [] :=
  World.ownsRow_made w #[] 0 hb (Nat.zero_le _) (by simp)

@[go_sem] theorem eqnil_Pair (w : World) (a : Option Addr) (n c : Nat) : (binOp .eql 22 (.slice a n c) (.slice none 0 0)).run Try.prog w = .ok (.bool a.isNone) w := Lib.run_eql_slice_nil w _ _ a n c 0 0 tyPair.und
@[go_sem] theorem neqnil_Pair (w : World) (a : Option Addr) (n c : Nat) : (binOp .neq 22 (.slice a n c) (.slice none 0 0)).run Try.prog w = .ok (.bool (!a.isNone)) w := run_neq_slice_nil w _ _ a n c tyPair.und
set_option maxHeartbeats 1000000 in
theorem clone_Pair (A : Option Addr) (n c : Nat) (xs : List (Int × Int)) (w : World) (hn : n = xs.length) (h : Rd pairE w.heap.size w A xs) (hb : n ≤ 1000000) :
    Calls Try.prog 35 #[.slice A n c] w fun e w' => ∃ v, e = .returned v ∧ Own pairE 26 w.heap.size w' v xs ∧ Ext w w' := by
  replace hn := hide hn
  replace h := hide h
  cases A with
  | none =>
    have hx : xs = [] := by rcases h.out with h | ⟨_, _, h, _⟩; exact h; cases h
    replace hx := hide hx
    go_enter Try.func35, Try.ntmps35
    go_wp2
    go_ret
    exact ⟨_, rfl, by rw [hx.out]; exact Own.nil_, Below.refl _ _⟩
  | some ad =>
    go_enter Try.func35, Try.ntmps35
    go_wp2_with (at_builtin; refine wpList_app tyPair rfl (.tmp 5) (.tmp 6) rfl rfl (own_empty w _ (Nat.le_refl _)) rfl (h.out.below ((Below.refl _ _).alloc (Nat.le_refl _) _)) hn.out (by rw [← hn.out]; simp; omega) (by simp) ?_)
    intro v1 w1 hown1 hg1 _ _
    have hE : Ext w w1 := (own_empty w _ (Nat.le_refl _)).below (E := pairE) ((Below.refl _ _).alloc (Nat.le_refl _) _) hg1 (by simp)
    replace hown1 := hide hown1
    clear hg1
    go_wp2
    go_ret
    exact ⟨_, rfl, by simpa using hown1.out, hE⟩
@[go_sem] theorem eqnil_Str (w : World) (a : Option Addr) (n c : Nat) : (binOp .eql 45 (.slice a n c) (.slice none 0 0)).run Try.prog w = .ok (.bool a.isNone) w := Lib.run_eql_slice_nil w _ _ a n c 0 0 tyStr.und
@[go_sem] theorem neqnil_Str (w : World) (a : Option Addr) (n c : Nat) : (binOp .neq 45 (.slice a n c) (.slice none 0 0)).run Try.prog w = .ok (.bool (!a.isNone)) w := run_neq_slice_nil w _ _ a n c tyStr.und
set_option maxHeartbeats 1000000 in
theorem clone_Str (A : Option Addr) (n c : Nat) (xs : List ByteArray) (w : World) (hn : n = xs.length) (h : Rd strE w.heap.size w A xs) (hb : n ≤ 1000000) :
    Calls Try.prog 24 #[.slice A n c] w fun e w' => ∃ v, e = .returned v ∧ Own strE 9 w.heap.size w' v xs ∧ Ext w w' := by
  replace hn := hide hn
  replace h := hide h
  cases A with
  | none =>
    have hx : xs = [] := by rcases h.out with h | ⟨_, _, h, _⟩; exact h; cases h
    replace hx := hide hx
    go_enter Try.func24, Try.ntmps24
    go_wp2
    go_ret
    exact ⟨_, rfl, by rw [hx.out]; exact Own.nil_, Below.refl _ _⟩
  | some ad =>
    go_enter Try.func24, Try.ntmps24
    go_wp2_with (at_builtin; refine wpList_app tyStr rfl (.tmp 5) (.tmp 6) rfl rfl (own_empty w _ (Nat.le_refl _)) rfl (h.out.below ((Below.refl _ _).alloc (Nat.le_refl _) _)) hn.out (by rw [← hn.out]; simp; omega) (by simp) ?_)
    intro v1 w1 hown1 hg1 _ _
    have hE : Ext w w1 := (own_empty w _ (Nat.le_refl _)).below (E := strE) ((Below.refl _ _).alloc (Nat.le_refl _) _) hg1 (by simp)
    replace hown1 := hide hown1
    clear hg1
    go_wp2
    go_ret
    exact ⟨_, rfl, by simpa using hown1.out, hE⟩

set_option maxHeartbeats 1000000 in
theorem few_any (A : Option Addr) (n c : Nat) (xs : List (Int × Int)) (w : World) (hn : n = xs.length) (h : Rd pairE w.heap.size w A xs) (hc : n ≤ c) :
    Calls Try.prog 9 #[.slice A n c] w fun e w' => ∃ v, e = .returned v ∧ Own pairE 26 w.heap.size w' v (xs.take 60) ∧ Ext w w' := by
  have hl : min n 60 = (xs.take 60).length := by rw [List.length_take, Nat.min_comm]; omega
  replace hl := hide hl
  have H60 := hide (h.take 60)
  clear h
  clear hn
  go_enter Try.func9, Try.ntmps9
  go_wp2_with fail
  all_goals
    refine (clone_Pair A _ c (xs.take 60) _ (by rw [← hl.out]; omega) H60.out (by omega)).mono ?_
    rintro e w1 ⟨v, rfl, hown, hE⟩
    replace hown := hide hown
    go_wp2
    go_ret
    exact ⟨v, rfl, hown.out, hE⟩

theorem beq_pair (a b p q : Int) : (!((a == p) && (b == q))) = decide ((a, b) ≠ (p, q)) := by
  by_cases h1 : a = p <;> by_cases h2 : b = q <;> simp [h1, h2]
def neP (x y : Int × Int) : Bool := !(x == y)
set_option maxHeartbeats 1000000 in
@[go_sem high] theorem neq_Pair (w : World) (a b p q : Int) : (binOp .neq 26 (.agg #[.int .i64 a, .int .i64 b]) (.agg #[.int .i64 p, .int .i64 q])).run Try.prog w = .ok (.bool (neP (a, b) (p, q))) w := by
  by_cases h1 : a = p <;> by_cases h2 : b = q <;> simp [go_sem, h1, h2, neP]

set_option maxHeartbeats 1000000 in
theorem equal_Pair (A B : Option Addr) (n c m d : Nat) (xs ys : List (Int × Int)) (w : World) (hn : n = xs.length) (h : Rd pairE w.heap.size w A xs) (hm : m = ys.length) (h' : Rd pairE w.heap.size w B ys) (hb : n ≤ 1000000) :
    Calls Try.prog 12 #[.slice A n c, .slice B m d] w fun e w' => e = .returned (.bool (decide (xs = ys))) ∧ Ext w w' := by
  by_cases hnm : n = m
  · subst hnm
    replace hn := hide hn
    replace hm := hide hm
    replace h := hide h
    replace h' := hide h'
    go_enter Try.func12, Try.ntmps12
    go_wp2
    go_loopw [13] (fun i wr => ∃ k : Nat, k ≤ n ∧ i = .int .i64 k ∧ Hid (xs.take k = ys.take k) ∧ Below w.heap.size w wr) (fun i _ => n - (intOf i).toNat)
    case atStart => exact ⟨0, by omega, rfl, hide rfl, Below.refl _ _⟩
    case round =>
      obtain ⟨k, hk, rfl, heq, hB⟩ := hrel
      obtain ⟨hc, hf⟩ := bcell hB
      by_cases hlt : k < n
      · obtain ⟨b, off, rfl, hra⟩ := h.out.at_ (i := k) (by rw [← hn.out]; exact hlt)
        obtain ⟨b', off', rfl, hrb⟩ := h'.out.at_ (i := k) (by rw [← hm.out]; exact hlt)
        have hb1 := hra.1
        have hb2 := hrb.1
        obtain ⟨⟨p1, p2⟩, hx⟩ := get_some (i := k) (by rw [← hn.out]; exact hlt)
        obtain ⟨hx1, hx2⟩ := hra.pair hx
        replace hx := hide hx
        obtain ⟨⟨q1, q2⟩, hy⟩ := get_some (i := k) (by rw [← hm.out]; exact hlt)
        obtain ⟨hy1, hy2⟩ := hrb.pair hy
        replace hy := hide hy
        replace hra := hide hra
        replace hrb := hide hrb
        have hk1 : (k : Int) < (n : Int) := by omega
        go_wp2
        refine wp_region_mix (fun W => Below w.heap.size w W) [(0, true), (1, true), (2, true), (3, true), (4, true), (5, true), (6, true), (7, true), (8, true)] (by kernel_rfl) (by kernel_rfl) (by kernel_rfl) (by kernel_rfl) (fun _ _ d _ _ h => by cases d <;> exact h) ?_ ?_
        · exact hB.drew
        iterate 9
          apply mix_q rfl rfl
          · intro W hW
            have hcW := (bcell hW).1
            go_simp
            try exact rfl
          simp only [Act.put, List.setIfInBounds_toArray, List.set_cons_zero, List.set_cons_succ]
        refine mix_nil ?_
        cases hne : neP (p1, p2) (q1, q2)
        · go_wp2
          refine ⟨?_, ?_⟩
          · first
              | exact ⟨k + 1, by omega, by go_num, hide (by rw [take_snoc hx.out, take_snoc hy.out, heq.out]; simp [neP] at hne; simp [hne]), hB.drew⟩
              | ((repeat apply Exists.intro); exact ⟨⟨k + 1, by omega, by go_num, hide (by rw [take_snoc hx.out, take_snoc hy.out, heq.out]; simp [neP] at hne; simp [hne]), hB.drew⟩, rfl⟩)
          · first | (simp [intOf, lenV]; omega) | (simp [intOf]; omega)
        · go_wp2
          go_ret
          refine ⟨ret_bool ?_, hB.drew⟩
          simp only [Bool.false_eq, decide_eq_false_iff_not]
          rintro rfl
          have := hx.out.symm.trans hy.out
          simp [neP] at this hne
          simp [this] at hne
      · go_wp2
        go_ret
        refine ⟨ret_bool ?_, hB⟩
        have e := heq.out
        rw [List.take_of_length_le (by rw [← hn.out]; omega), List.take_of_length_le (by rw [← hm.out]; omega)] at e
        simp [e]
  · have hne : (!((n : Int) == (m : Int))) = true := by simp; omega
    have hne' : xs ≠ ys := fun h => hnm (by rw [hn, hm, h])
    replace hn := hide hn
    replace hm := hide hm
    replace h := hide h
    replace h' := hide h'
    replace hne' := hide hne'
    go_enter Try.func12, Try.ntmps12
    go_wp2
    go_ret
    exact ⟨ret_bool (by simp [hne'.out]), Below.refl _ _⟩
end Go.Proofs.Ytecfceabioajkaa
