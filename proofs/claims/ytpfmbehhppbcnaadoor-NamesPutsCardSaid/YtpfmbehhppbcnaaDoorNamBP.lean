/- names: a fine table's names, put one by one; what Put gives, plainly. -/
import Derived.Test.YtpfmbehhppbcnaaDoorNamU
namespace Go.Proofs.YtpfmbehhppbcnaaDoor
open Go.RowKit

def ints (n : Nat) : List Int := (List.range n).map Int.ofNat
theorem ints_len (n : Nat) : (ints n).length = n := by unfold ints; simp
theorem ints_get {n k : Nat} {z : Int} (h : (ints n)[k]? = some z) : z = k := by
  unfold ints at h
  rw [List.getElem?_map] at h
  cases hr : (List.range n)[k]? with
  | none => rw [hr] at h; cases h
  | some j =>
    rw [hr, Option.map_some] at h
    obtain ⟨h1, h2⟩ := List.getElem?_eq_some_iff.1 hr
    rw [List.getElem_range] at h2
    injection h with h
    rw [← h, ← h2]; simp
theorem fine_parts {xs : List ByteArray} (h : fineB xs = true) : xs.Nodup ∧ (∀ x ∈ xs, wordB x = true) ∧ xs.length ≤ 300 := by
  unfold fineB at h
  rw [Bool.and_eq_true, Bool.and_eq_true] at h
  exact ⟨of_decide_eq_true h.1, List.all_eq_true.1 h.2.1, of_decide_eq_true h.2.2⟩
theorem fine_mk {xs : List ByteArray} (h1 : xs.Nodup) (h2 : ∀ x ∈ xs, wordB x = true) (h3 : xs.length ≤ 300) : fineB xs = true := by
  unfold fineB
  rw [decide_eq_true h1, List.all_eq_true.2 h2, decide_eq_true h3]; rfl
theorem allF_take {xs : List ByteArray} (h : fineB xs = true) : ∀ k, k ≤ xs.length → allF (xs.take k) = (xs.take k, ints k, 0)
  | 0, _ => rfl
  | k + 1, hk => by
    obtain ⟨hnd, hw, hl⟩ := fine_parts h
    obtain ⟨x, hx⟩ := get_some (xs := xs) (i := k) (by omega)
    have hno : x ∉ xs.take k := fun hm => not_nodup hx hm hnd
    have hlen : (xs.take k).length = k := by rw [List.length_take]; omega
    have hp : putR (xs.take k) x = (xs.take k ++ [x], (k : Int), 0) := by
      unfold putR
      rw [if_neg (by rw [hw x (List.mem_of_getElem? hx)]; decide), if_neg hno, if_neg (by rw [hlen]; omega), hlen]
    rw [take_snoc hx, allF_snoc, allF_take h k (by omega), allStep_put, hp]
    simp [ints, List.range_succ]
theorem allF_good {xs : List ByteArray} (h : fineB xs = true) : allF xs = (xs, ints xs.length, 0) := by
  have := allF_take h xs.length (Nat.le_refl _)
  rwa [List.take_length] at this
theorem at_snoc {a : List ByteArray} {s : ByteArray} (h : s ∉ a) : at_ (a ++ [s]) s = a.length := by
  refine at_some (by rw [List.getElem?_append_right (Nat.le_refl _)]; simp) fun y hy he => ?_
  rw [List.take_left] at hy
  exact h (he ▸ hy)
/-- what a Put without an error gives -/
theorem putN_ok {a b : List ByteArray} {s : ByteArray} {p : Int} (hf : fineB a = true) (h : putN a s = (b, p, 0)) :
    fineB b = true ∧ s ∈ b ∧ p = (at_ b s : Int) ∧ b.take a.length = a ∧ a.length ≤ b.length ∧ (∀ x ∈ b, x ∈ a ∨ x = s) ∧ putN b s = (b, p, 0) := by
  have hb : fineB b = true ∧ s ∈ b ∧ p = (at_ b s : Int) ∧ b.take a.length = a ∧ a.length ≤ b.length ∧ (∀ x ∈ b, x ∈ a ∨ x = s) ∧ wordB s = true := by
    obtain ⟨hnd, hw, hl⟩ := fine_parts hf
    unfold putN at h
    rw [if_neg (by rw [hf]; decide)] at h
    unfold putR at h
    by_cases h1 : wordB s = false
    · rw [if_pos h1] at h; simp at h
    · have h1' : wordB s = true := by cases hh : wordB s with | true => rfl | false => exact absurd hh h1
      rw [if_neg h1] at h
      by_cases h2 : s ∈ a
      · rw [if_pos h2] at h
        injection h with e1 e2
        injection e2 with e2 _
        subst e1
        exact ⟨hf, h2, e2.symm, List.take_length, Nat.le_refl _, fun x hx => .inl hx, h1'⟩
      · rw [if_neg h2] at h
        by_cases h3 : a.length = 300
        · rw [if_pos h3] at h; simp at h
        · rw [if_neg h3] at h
          injection h with e1 e2
          injection e2 with e2 _
          subst e1
          refine ⟨fine_mk (nodup_snoc hnd h2) ?_ (by rw [List.length_append, List.length_singleton]; omega), by simp, by rw [at_snoc h2]; exact e2.symm, List.take_left, by rw [List.length_append]; omega, ?_, h1'⟩
          · intro x hx
            rcases List.mem_append.1 hx with h | h
            · exact hw x h
            · rw [List.mem_singleton] at h; rw [h]; exact h1'
          · intro x hx
            rcases List.mem_append.1 hx with h | h
            · exact .inl h
            · exact .inr (List.mem_singleton.1 h)
  obtain ⟨g1, g2, g3, g4, g5, g6, g7⟩ := hb
  refine ⟨g1, g2, g3, g4, g5, g6, ?_⟩
  unfold putN
  rw [if_neg (by rw [g1]; decide)]
  unfold putR
  rw [if_neg (by rw [g7]; decide), if_pos g2, g3]
/-- what a Put with an error gives -/
theorem putN_err {a b : List ByteArray} {s : ByteArray} {p z : Int} (hf : fineB a = true) (h : putN a s = (b, p, z)) (hz : ¬ z = 0) :
    b = [] ∧ (z = 200 ∧ chkN s = 200 ∨ z = 6 ∧ chkN s = 0 ∧ a.length = 300) := by
  unfold putN at h
  rw [if_neg (by rw [hf]; decide)] at h
  unfold putR at h
  by_cases h1 : wordB s = false
  · rw [if_pos h1] at h
    injection h with e1 e2
    injection e2 with e2 e3
    exact ⟨e1.symm, .inl ⟨e3.symm, chkN_not h1⟩⟩
  · have h1' : wordB s = true := by cases hh : wordB s with | true => rfl | false => exact absurd hh h1
    rw [if_neg h1] at h
    by_cases h2 : s ∈ a
    · rw [if_pos h2] at h
      injection h with e1 e2
      injection e2 with e2 e3
      exact absurd e3.symm hz
    · rw [if_neg h2] at h
      by_cases h3 : a.length = 300
      · rw [if_pos h3] at h
        injection h with e1 e2
        injection e2 with e2 e3
        exact ⟨e1.symm, .inr ⟨e3.symm, chkN_word h1', h3⟩⟩
      · rw [if_neg h3] at h
        injection h with e1 e2
        injection e2 with e2 e3
        exact absurd e3.symm hz
end Go.Proofs.YtpfmbehhppbcnaaDoor
