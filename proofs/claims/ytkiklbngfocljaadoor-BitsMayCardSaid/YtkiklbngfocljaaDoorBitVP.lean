/- Sets of numbers: the document's Of, in plain Lean. -/
import Derived.Test.YtkiklbngfocljaaDoorBitS
namespace Go.Proofs.YtkiklbngfocljaaDoor
open Go.RowKit

/-- how many words it takes -/
def topL (l : List Int) : Nat := l.foldl (fun m i => max m (i.toNat / 64 + 1)) 0
theorem topL_snoc (l : List Int) (i : Int) : topL (l ++ [i]) = max (topL l) (i.toNat / 64 + 1) := by unfold topL; rw [List.foldl_append]; rfl
theorem ofL_length (l : List Int) : (ofL l).length = topL l := by
  induction l using snoc_cases with
  | h0 => rfl
  | h1 l x ih => rw [ofL_snoc, topL_snoc, turnW_length, ih]
theorem hasL_word {l : List Int} (hm : ∀ x ∈ l, mayB x = true) (i k : Nat) (hk : k < 64) : hasL l ((64 * i + k : Nat) : Int) = (wat (ofL l) i).testBit k := by
  have h : has (ofL l) (64 * i + k) = (wat (ofL l) i).testBit k := by
    unfold has
    rw [show (64 * i + k) / 64 = i by omega, show (64 * i + k) % 64 = k by omega]
  rw [← h, Bool.eq_iff_iff, has_ofL]
  unfold hasL
  rw [decide_eq_true_iff]
  constructor
  · intro hc; exact ⟨_, hc, by omega⟩
  · rintro ⟨x, hx, hxe⟩
    have := (mayB_of (hm x hx)).1
    rw [show ((64 * i + k : Nat) : Int) = x by omega]
    exact hx
/-- a word of which the first bits came in from above -/
def up (x k : Nat) : Nat := x % 2 ^ k * 2 ^ (64 - k)
theorem up_zero (x : Nat) : up x 0 = 0 := by unfold up; rw [Nat.pow_zero, Nat.mod_one, Nat.zero_mul]
theorem up_all {x : Nat} (hx : x < 18446744073709551616) : up x 64 = x := by unfold up; rw [Nat.mod_eq_of_lt (by exact hx)]; simp
theorem up_half {x k : Nat} (hk : k < 64) : up x k / 2 = x % 2 ^ k * 2 ^ (63 - k) := by
  unfold up
  rw [show 64 - k = (63 - k) + 1 by omega, Nat.pow_succ, ← Nat.mul_assoc, Nat.mul_div_cancel _ (by decide)]
theorem up_half_lt {x k : Nat} (hk : k < 64) : up x k / 2 < 9223372036854775808 := by
  rw [up_half hk]
  have h1 : x % 2 ^ k < 2 ^ k := Nat.mod_lt _ (Nat.two_pow_pos k)
  have h2 : 2 ^ k * 2 ^ (63 - k) = 9223372036854775808 := by rw [← Nat.pow_add, show k + (63 - k) = 63 by omega]
  rw [← h2]
  exact Nat.mul_lt_mul_of_pos_right h1 (Nat.two_pow_pos _)
theorem up_succ {x k : Nat} (hk : k < 64) : up x (k + 1) = up x k / 2 + if x.testBit k = true then 9223372036854775808 else 0 := by
  rw [up_half hk]
  unfold up
  have h2 : 2 ^ k * 2 ^ (63 - k) = 9223372036854775808 := by rw [← Nat.pow_add, show k + (63 - k) = 63 by omega]
  rw [show 64 - (k + 1) = 63 - k by omega, Nat.mod_pow_succ, Nat.add_mul]
  congr 1
  rw [Nat.testBit_eq_decide_div_mod_eq]
  rcases Nat.mod_two_eq_zero_or_one (x / 2 ^ k) with h | h
  · rw [h]; simp
  · rw [h]; simp [h2]
theorem up_lt {x k : Nat} (hk : k ≤ 64) : up x k < 18446744073709551616 := by
  unfold up
  have h1 : x % 2 ^ k < 2 ^ k := Nat.mod_lt _ (Nat.two_pow_pos k)
  have h2 : 2 ^ k * 2 ^ (64 - k) = 18446744073709551616 := by rw [← Nat.pow_add, show k + (64 - k) = 64 by omega]
  rw [← h2]
  exact Nat.mul_lt_mul_of_pos_right h1 (Nat.two_pow_pos _)
/-- the first words done, the others 0 -/
def half (a : List Nat) (k : Nat) : List Nat := rowJ (fun x _ => x) a [] a.length k
theorem half_len (a : List Nat) (k : Nat) : (half a k).length = a.length := rowJ_length _ _ _ _ _
theorem half_zero (a : List Nat) : half a 0 = List.replicate a.length 0 := rowJ_zero _ _ _ _
theorem half_succ (a : List Nat) (k : Nat) : (half a k).set k (wat a k) = half a (k + 1) := rowJ_succ (fun x _ => x) a [] a.length k
theorem half_all (a : List Nat) : half a a.length = a := by
  unfold half rowJ
  apply List.ext_getElem
  · simp
  · intro i h1 h2
    simp only [List.getElem_map, List.getElem_range]
    rw [if_pos h2]
    unfold wat
    rw [List.getElem?_eq_getElem h2]; rfl
end Go.Proofs.YtkiklbngfocljaaDoor
