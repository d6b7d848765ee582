/- A row's first forty, anew; is a row below another one, and nothing is wrong. -/
import Derived.Test.YtbmcbbcgambflaaDoorLevW
namespace Go.Proofs.YtbmcbbcgambflaaDoor
open Go.RowKit

theorem intE_row : ∀ xs : List Int, intE.row xs = xs.map (Value.int .i64)
  | [] => rfl
  | x :: xs => by
    have := intE_row xs
    simp [El.row, intE] at this ⊢
    exact this
theorem few_any (A : Option Addr) (n c : Nat) (xs : List Int) (w : World) (hn : n = xs.length) (hnc : n ≤ c) (h : Rd intE w.heap.size w A xs) :
    Calls Tryd.prog 19 #[.slice A n c] w fun e w' => ∃ v, e = .returned v ∧ Own intE 3 w.heap.size w' v (xs.take 40) ∧ Ext w w' := by
  replace hn := hide hn
  replace h := hide h
  by_cases h0 : n = 0
  · subst h0
    have hx : xs = [] := List.eq_nil_of_length_eq_zero hn.out.symm
    subst hx
    clear hn h
    have z1 : min (0 : Int) 40 = 0 := by omega
    cases A with
    | none =>
      go_enter Tryd.func19, Tryd.ntmps19
      go_wp2_with fail
      refine (Tryd.slices_Clone_int_nil _ _ _).mono ?_
      rintro e w1 ⟨rfl, rfl⟩
      go_wp2
      go_ret
      exact ⟨_, rfl, Own.nil_, Below.refl _ _⟩
    | some a =>
      go_enter Tryd.func19, Tryd.ntmps19
      go_wp2_with fail
      refine (Tryd.slices_Clone_int_zero _ _ _).mono ?_
      rintro e w1 ⟨v, rfl, hO, -, hB⟩
      go_wp2
      go_ret
      exact ⟨_, rfl, hO, hB⟩
  · obtain ⟨b, off, rfl, hra⟩ := h.out.at_ (i := 0) (by rw [← hn.out]; omega)
    clear h
    obtain ⟨q, hq⟩ : ∃ q, q = min n 40 := ⟨_, rfl⟩
    have z1 : min (n : Int) 40 = q := by omega
    have z2 : q ≤ n := by omega
    have z3 : (q : Int) ≤ c := by omega
    have z4 : q ≤ c := by omega
    have hm := hide (Tryd.slices_Clone_int b off q c xs w (by rw [← hn.out]; exact z2) (by omega) (fun j hj => hra.int (by rw [List.getD, List.getElem?_eq_getElem hj]; rfl)))
    have ht : xs.take q = xs.take 40 := by
      rw [hq]
      by_cases h40 : n ≤ 40
      · rw [Nat.min_eq_left h40, hn.out, List.take_length, List.take_of_length_le (by rw [← hn.out]; exact h40)]
      · rw [Nat.min_eq_right (by omega)]
    have hl : (xs.take 40).length = q := by rw [List.length_take, ← hn.out, hq]; omega
    replace hq := hide hq
    replace ht := hide ht
    replace hl := hide hl
    clear hra
    go_enter Tryd.func19, Tryd.ntmps19
    go_wp2_with fail
    refine hm.out.mono ?_
    rintro e w1 ⟨v, rfl, hO, -, hB⟩
    clear hm
    rw [ht.out] at hO
    have hO' : Own intE 3 w.heap.size w1 v (xs.take 40) := by
      unfold Own
      rw [hl.out, intE_row]
      exact hO
    replace hO' := hide hO'
    clear hO
    go_wp2
    go_ret
    exact ⟨_, rfl, hO'.out, hB⟩
theorem fn_below_any (A1 A2 : Option Addr) (n1 c1 n2 c2 : Nat) (xs ys : List Int) (w : World) (h1 : Rd intE w.heap.size w A1 xs) (h2 : Rd intE w.heap.size w A2 ys) (hn1 : n1 = xs.length) (hn2 : n2 = ys.length) (hl1 : n1 ≤ 1000000) (hl2 : n2 ≤ 1000000) :
    Calls Tryd.prog 22 #[.slice A1 n1 c1, .slice A2 n2 c2] w fun e w' => e = .returned (.bool (isBelow xs ys)) ∧ Ext w w' := by
  have hb := hide (below_any A1 A2 n1 c1 n2 c2 xs ys w h1 h2 hn1 hn2 hl1 hl2)
  clear h1 h2 hn1 hn2
  go_enter Tryd.func22, Tryd.ntmps22
  go_wp2_with fail
  refine hb.out.mono ?_
  rintro e w1 ⟨rfl, hB⟩
  clear hb
  by_cases he : eachE xs ys = 0
  · rw [he]
    replace he := hide he
    obtain ⟨q, hq⟩ : ∃ q, q = isBelow xs ys := ⟨_, rfl⟩
    rw [← hq]
    replace hq := hide hq
    go_wp2
    go_ret
    exact ⟨by rw [← hq.out]; rfl, hB⟩
  · have hib : isBelow xs ys = false := by unfold isBelow; rw [if_neg he]
    obtain ⟨ev, hev⟩ : ∃ ev, ev = eachE xs ys := ⟨_, rfl⟩
    rw [← hev] at he ⊢
    have he' : (ev == 0) = false := beq_eq_false_iff_ne.2 he
    rw [hib]
    replace hib := hide hib
    clear hev
    go_wp2
    go_ret
    exact ⟨by rw [hib.out]; rfl, hB⟩
end Go.Proofs.YtbmcbbcgambflaaDoor
