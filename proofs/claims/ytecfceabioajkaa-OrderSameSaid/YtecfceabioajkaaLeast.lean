/- order.Least returns the place of the first least element, and whether there is one. -/
import Derived.Test.YtecfceabioajkaaCmp
namespace Go.Proofs.Ytecfceabioajkaa
open Go.RowKit

/-- the place of the first least one of the first k -/
def leastTo {α : Type} (lt : α → α → Bool) (xs : List α) : Nat → Nat
  | 0 => 0
  | k + 1 => match xs[k]?, xs[leastTo lt xs k]? with
    | some x, some y => if lt x y then k else leastTo lt xs k
    | _, _ => leastTo lt xs k
theorem leastTo_succ {α : Type} {lt : α → α → Bool} {xs : List α} {k m : Nat} {x y : α} (hm : m = leastTo lt xs k) (hx : xs[k]? = some x) (hy : xs[m]? = some y) :
    leastTo lt xs (k + 1) = if lt x y then k else m := by
  subst hm
  simp only [leastTo, hx, hy]
theorem leastTo_lt {α : Type} {lt : α → α → Bool} {xs : List α} {n : Nat} : ∀ k, k < n → leastTo lt xs k < n
  | 0, h => h
  | k + 1, h => by
    have ih := leastTo_lt (lt := lt) (xs := xs) k (by omega : k < n)
    simp only [leastTo]
    split
    · split <;> omega
    · exact ih

set_option maxHeartbeats 1000000 in
theorem least_Pair (A : Option Addr) (n c : Nat) (xs : List (Int × Int)) (w : World) (hn : n = xs.length) (h : Rd pairE w.heap.size w A xs) (hm : n ≤ 1000000) :
    Calls Try.prog 17 #[.slice A n c, .func (.func 11) #[] #[]] w fun e w' => e = .returned (.tuple #[.int .i64 (leastTo ltP xs n), .bool (decide (0 < n))]) ∧ Ext w w' := by
  replace hn := hide hn
  replace h := hide h
  go_enter Try.func17, Try.ntmps17
  go_wp2
  go_loopw [6, 10] (fun l i wr => ∃ k m : Nat, k ≤ n ∧ i = .int .i64 k ∧ l = .int .i64 m ∧ Hid (m = leastTo ltP xs k) ∧ Below w.heap.size w wr) (fun _ i _ => n - (intOf i).toNat)
  case atStart => exact ⟨0, 0, by omega, rfl, rfl, hide rfl, Below.refl _ _⟩
  case round =>
    obtain ⟨k, m, hk, rfl, rfl, hmk, hB⟩ := hrel
    obtain ⟨hc, hf⟩ := bcell hB
    by_cases hlt : k < n
    · have hml : m < n := by rw [hmk.out]; exact leastTo_lt _ hlt
      obtain ⟨b, off, rfl, hr⟩ := h.out.at_ (i := k) (by rw [← hn.out]; exact hlt)
      have hb := hr.1
      have hsz := hB.size
      have hb' : b < wr.heap.size := by omega
      obtain ⟨⟨p1, p2⟩, hx⟩ := get_some (i := k) (by rw [← hn.out]; exact hlt)
      obtain ⟨hx1, hx2⟩ := hr.pair hx
      replace hx := hide hx
      obtain ⟨⟨q1, q2⟩, hy⟩ := get_some (i := m) (by rw [← hn.out]; exact hml)
      obtain ⟨hy1, hy2⟩ := hr.pair hy
      replace hy := hide hy
      replace hr := hide hr
      go_wp2
      refine wp_region_ext (by kernel_rfl) (by kernel_rfl) ?_
      iterate 9
        apply ext_step rfl
        · intro W hW
          have hcW := (bcell hW).1
          unfold Oper.quietAt
          go_simp
          exact rfl
        simp only [Act.put, List.setIfInBounds_toArray, List.set_cons_zero, List.set_cons_succ]
      apply ext_step rfl
      · intro W hW
        have hcW := (bcell hW).1
        unfold Oper.quietAt
        go_simp
        exact (keys_ext _ _ _ _ _).mono fun e w' h => ⟨h.1, hW.trans (h.2.mono hW.size)⟩
      simp only [Act.put, List.setIfInBounds_toArray, List.set_cons_zero, List.set_cons_succ]
      iterate 1
        apply ext_step rfl
        · intro W hW
          have hcW := (bcell hW).1
          unfold Oper.quietAt
          go_simp
          exact rfl
        simp only [Act.put, List.setIfInBounds_toArray, List.set_cons_zero, List.set_cons_succ]
      refine wpQuiet_nil (fun w1 hB1 => ?_)
      have hB2 := hB.trans (hB1.mono hB.size)
      have hs := leastTo_succ hmk.out hx.out hy.out
      rw [← cmpP_lt] at hs
      replace hs := hide hs
      go_wp2
      all_goals
        go_roundw
        case rel => exact ⟨k + 1, _, by omega, by go_num, rfl, hide (by rw [hs.out]; simp only [decide_eq_true_eq]; first | rw [if_pos (by assumption)] | rw [if_neg (by omega)]), hB2⟩
        case measure => simp [intOf]; omega
    · have hkn : n = k := by omega
      go_wp2
      go_ret2
      refine ⟨?_, hB⟩
      rw [hkn, ← hmk.out]
      simp
set_option maxHeartbeats 1000000 in
theorem least_Str (A : Option Addr) (n c : Nat) (xs : List ByteArray) (w : World) (hn : n = xs.length) (h : Rd strE w.heap.size w A xs) (hm : n ≤ 1000000) :
    Calls Try.prog 31 #[.slice A n c, .func (.func 26) #[] #[]] w fun e w' => e = .returned (.tuple #[.int .i64 (leastTo ltS xs n), .bool (decide (0 < n))]) ∧ Ext w w' := by
  replace hn := hide hn
  replace h := hide h
  go_enter Try.func31, Try.ntmps31
  go_wp2
  go_loopw [6, 10] (fun l i wr => ∃ k m : Nat, k ≤ n ∧ i = .int .i64 k ∧ l = .int .i64 m ∧ Hid (m = leastTo ltS xs k) ∧ Below w.heap.size w wr) (fun _ i _ => n - (intOf i).toNat)
  case atStart => exact ⟨0, 0, by omega, rfl, rfl, hide rfl, Below.refl _ _⟩
  case round =>
    obtain ⟨k, m, hk, rfl, rfl, hmk, hB⟩ := hrel
    obtain ⟨hc, hf⟩ := bcell hB
    by_cases hlt : k < n
    · have hml : m < n := by rw [hmk.out]; exact leastTo_lt _ hlt
      obtain ⟨b, off, rfl, hr⟩ := h.out.at_ (i := k) (by rw [← hn.out]; exact hlt)
      have hb := hr.1
      have hsz := hB.size
      have hb' : b < wr.heap.size := by omega
      obtain ⟨p1, hx⟩ := get_some (i := k) (by rw [← hn.out]; exact hlt)
      have hx1 := hr.str hx
      replace hx := hide hx
      obtain ⟨q1, hy⟩ := get_some (i := m) (by rw [← hn.out]; exact hml)
      have hy1 := hr.str hy
      replace hy := hide hy
      replace hr := hide hr
      go_wp2
      refine wp_region_ext (by kernel_rfl) (by kernel_rfl) ?_
      iterate 9
        apply ext_step rfl
        · intro W hW
          have hcW := (bcell hW).1
          unfold Oper.quietAt
          go_simp
          exact rfl
        simp only [Act.put, List.setIfInBounds_toArray, List.set_cons_zero, List.set_cons_succ]
      apply ext_step rfl
      · intro W hW
        have hcW := (bcell hW).1
        unfold Oper.quietAt
        go_simp
        exact (compare_str _ _  _).mono fun e w' h => ⟨h.1, hW.trans (h.2.mono hW.size)⟩
      simp only [Act.put, List.setIfInBounds_toArray, List.set_cons_zero, List.set_cons_succ]
      iterate 1
        apply ext_step rfl
        · intro W hW
          have hcW := (bcell hW).1
          unfold Oper.quietAt
          go_simp
          exact rfl
        simp only [Act.put, List.setIfInBounds_toArray, List.set_cons_zero, List.set_cons_succ]
      refine wpQuiet_nil (fun w1 hB1 => ?_)
      have hB2 := hB.trans (hB1.mono hB.size)
      have hs := leastTo_succ hmk.out hx.out hy.out
      rw [← cmpS_lt] at hs
      replace hs := hide hs
      go_wp2
      all_goals
        go_roundw
        case rel => exact ⟨k + 1, _, by omega, by go_num, rfl, hide (by rw [hs.out]; simp only [decide_eq_true_eq]; first | rw [if_pos (by assumption)] | rw [if_neg (by omega)]), hB2⟩
        case measure => simp [intOf]; omega
    · have hkn : n = k := by omega
      go_wp2
      go_ret2
      refine ⟨?_, hB⟩
      rw [hkn, ← hmk.out]
      simp
end Go.Proofs.Ytecfceabioajkaa
