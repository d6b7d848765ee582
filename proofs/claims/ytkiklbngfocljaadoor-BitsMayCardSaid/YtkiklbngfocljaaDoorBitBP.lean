/- BitsBack: Of of List is the set; Next by Next comes to List: in plain Lean. -/
import Derived.Test.YtkiklbngfocljaaDoorBitT
namespace Go.Proofs.YtkiklbngfocljaaDoor
open Go.RowKit

theorem has_ofL : ∀ (l : List Int) (n : Nat), has (ofL l) n = true ↔ ∃ i ∈ l, i.toNat = n := by
  intro l
  refine snoc_cases (fun l => ∀ n : Nat, has (ofL l) n = true ↔ ∃ i ∈ l, i.toNat = n) (fun n => ?_) (fun l i ih n => ?_) l
  · simp [ofL, has, wat]
  · rw [ofL_snoc, has_with, Bool.or_eq_true, ih, decide_eq_true_iff]
    constructor
    · rintro (⟨j, hj, h⟩ | h)
      · exact ⟨j, by simp [hj], h⟩
      · exact ⟨i, by simp, h.symm⟩
    · rintro ⟨j, hj, h⟩
      rcases List.mem_append.1 hj with hj | hj
      · exact .inl ⟨j, hj, h⟩
      · simp at hj; subst hj; exact .inr h.symm
theorem mem_natsI {l : List Nat} {i : Int} : i ∈ natsI l ↔ ∃ n ∈ l, (n : Int) = i := by
  unfold natsI
  rw [List.mem_map]
  rfl
theorem natsI_may {a : List Nat} (hf : Fit a) : ∀ x ∈ natsI (nums (ofW a)), mayB x = true := by
  intro x hx
  obtain ⟨n, hn, rfl⟩ := mem_natsI.1 hx
  have := (ofW_good hf).2 n ((mem_nums (ofW_fit hf)).1 hn)
  exact mayB_in (by omega) (by omega)
theorem back_E {a : List Nat} (hf : Fit a) : ofE (natsI (nums (ofW a))) = 0 := by
  unfold ofE
  rw [if_pos (List.all_eq_true.2 (natsI_may hf))]
theorem back_S {a : List Nat} (hf : Fit a) : ofS (natsI (nums (ofW a))) = ofW a := by
  unfold ofS
  rw [if_pos (List.all_eq_true.2 (natsI_may hf))]
  obtain ⟨h1, -⟩ := ofL_ok _ (natsI_may hf)
  have hh : ∀ n, has (trimW (ofL (natsI (nums (ofW a))))) n = has (ofW a) n := by
    intro n
    rw [trimW_has, Bool.eq_iff_iff, has_ofL]
    constructor
    · rintro ⟨i, hi, rfl⟩
      obtain ⟨m, hm, rfl⟩ := mem_natsI.1 hi
      exact (mem_nums (ofW_fit hf)).1 hm
    · intro h
      exact ⟨(n : Int), mem_natsI.2 ⟨n, (mem_nums (ofW_fit hf)).2 h, rfl⟩, rfl⟩
  refine good_ext (trimW_fit h1) (ofW_fit hf) ⟨trimW_canon _, fun n hn => ?_⟩ (ofW_good hf) hh
  rw [hh] at hn
  exact (ofW_good hf).2 n hn
theorem next_at {a : List Nat} (hf : Fit a) {j x : Nat} {p : Int} (hx : (nums (ofW a))[j]? = some x) (hp : p ≤ (x : Int)) (hb : ∀ y ∈ (nums (ofW a)).take j, (y : Int) < p) : nextW a p = some x := by
  unfold nextW
  have hs : nums (ofW a) = (nums (ofW a)).take j ++ x :: (nums (ofW a)).drop (j + 1) := by
    obtain ⟨hj, rfl⟩ := List.getElem?_eq_some_iff.1 hx
    rw [← List.drop_eq_getElem_cons hj, List.take_append_drop]
  rw [hs, List.find?_append, List.find?_eq_none.2 (fun y hy => by have := hb y hy; simp; omega), List.find?_cons_of_pos (by simpa using hp)]
  rfl
theorem next_end {a : List Nat} {p : Int} (hb : ∀ y ∈ nums (ofW a), (y : Int) < p) : nextW a p = none := by
  unfold nextW
  rw [List.find?_eq_none]
  intro y hy
  have := hb y hy
  simp
  omega
theorem next_of {a : List Nat} {p : Int} {x : Nat} (h : nextW a p = some x) : x ∈ nums (ofW a) ∧ p ≤ (x : Int) := by
  unfold nextW at h
  exact ⟨List.mem_of_find?_eq_some h, by simpa using List.find?_some h⟩
theorem take_lt {a : List Nat} (hf : Fit a) {j x : Nat} (hx : (nums (ofW a))[j]? = some x) : ∀ y ∈ (nums (ofW a)).take (j + 1), (y : Int) < (x : Int) + 1 := by
  intro y hy
  rw [take_snoc hx] at hy
  rcases List.mem_append.1 hy with h | h
  · obtain ⟨i, hi, hiy⟩ := List.mem_iff_getElem.1 h
    rw [List.length_take] at hi
    rw [List.getElem_take] at hiy
    obtain ⟨hj, hjx⟩ := List.getElem?_eq_some_iff.1 hx
    have := List.pairwise_iff_getElem.1 (nums_sorted (ofW_fit hf)) i j (by omega) hj (by omega)
    omega
  · simp at h; subst h; omega
theorem next_lt {a : List Nat} (hf : Fit a) {j x y : Nat} (hx : (nums (ofW a))[j]? = some x) (hy : (nums (ofW a))[j + 1]? = some y) : (x : Int) + 1 ≤ (y : Int) := by
  obtain ⟨hj, hjx⟩ := List.getElem?_eq_some_iff.1 hx
  obtain ⟨hk, hky⟩ := List.getElem?_eq_some_iff.1 hy
  have := List.pairwise_iff_getElem.1 (nums_sorted (ofW_fit hf)) j (j + 1) hj hk (by omega)
  omega
end Go.Proofs.YtkiklbngfocljaaDoor
