/- BitsTurns: with a number, and without it, a set is what it was, but for that. -/
import Derived.Test.YtkiklbngfocljaaDoorBitQ
import Derived.Test.YtkiklbngfocljaaDoorBitW
namespace Go.Proofs.YtkiklbngfocljaaDoor
open Go.RowKit

theorem withS_len (a : List Nat) (i : Int) (h : a.length ≤ 1000) : (withS a i).length ≤ 1000 := by
  unfold withS
  split
  · rename_i hm
    have := mayB_of hm
    have := ofW_le a
    refine Nat.le_trans (trimW_len _) ?_
    rw [turnW_length]
    omega
  · exact Nat.zero_le _
theorem withoutS_len (a : List Nat) (i : Int) (h : a.length ≤ 1000) : (withoutS a i).length ≤ 1000 := by
  have := ofW_le a
  unfold withoutS
  split
  · rename_i hm
    have := mayB_of hm
    refine Nat.le_trans (trimW_len _) ?_
    rw [turnW_length]
    omega
  · refine Nat.le_trans (trimW_len _) ?_
    omega
theorem has_withS {a : List Nat} (_ : Fit a) {i : Int} (hm : mayB i = true) (n : Nat) : has (withS a i) n = (has (ofW a) n || decide (n = i.toNat)) := by
  unfold withS
  rw [if_pos hm, trimW_has, has_with]
theorem has_withoutS {a : List Nat} (_ : Fit a) (i : Int) (n : Nat) : has (withoutS a i) n = (has (ofW a) n && !(mayB i && decide (n = i.toNat))) := by
  unfold withoutS
  cases hm : mayB i with
  | true => rw [if_pos rfl, trimW_has, has_without, Bool.true_and]
  | false => rw [if_neg (by decide), trimW_has, Bool.false_and, Bool.not_false, Bool.and_true]
section
variable {a : List Nat} (hf : Fit a)
include hf
theorem withS_fit (i : Int) : Fit (withS a i) := by
  unfold withS
  split
  · exact trimW_fit (turnW_fit (fun x y => or_fit) (ofW_fit hf) _)
  · intro x hx; cases hx
theorem withoutS_fit (i : Int) : Fit (withoutS a i) := by
  unfold withoutS
  split
  · exact trimW_fit (turnW_fit (fun x y => minus_fit) (ofW_fit hf) _)
  · exact trimW_fit (ofW_fit hf)
theorem withS_good (i : Int) : good (withS a i) := by
  unfold withS
  split
  · rename_i hm
    refine good_trim fun n hn => ?_
    rw [has_with, Bool.or_eq_true] at hn
    rcases hn with h | h
    · exact (ofW_good hf).2 n h
    · have := mayB_of hm
      have := of_decide_eq_true h
      omega
  · exact good_nil
theorem withoutS_good (i : Int) : good (withoutS a i) := by
  have h : ∀ n, has (withoutS a i) n = true → n < 10000 := by
    intro n hn
    rw [has_withoutS hf, Bool.and_eq_true] at hn
    exact (ofW_good hf).2 n hn.1
  refine ⟨?_, h⟩
  unfold withoutS
  split
  · exact trimW_canon _
  · exact trimW_canon _
theorem ofW_ofW : ofW (ofW a) = ofW a := ofW_id (ofW_fit hf) (ofW_good hf)
theorem trim_ofW : trimW (ofW a) = ofW a := canon_trim (ofW_good hf).1
theorem ofW_withS (i : Int) : ofW (withS a i) = withS a i := ofW_id (withS_fit hf i) (withS_good hf i)
theorem ofW_withoutS (i : Int) : ofW (withoutS a i) = withoutS a i := ofW_id (withoutS_fit hf i) (withoutS_good hf i)
theorem turn1 {i : Int} (hm : mayB i = true) : withS (withoutS a i) i = withS a i := by
  refine good_ext (withS_fit (withoutS_fit hf i) i) (withS_fit hf i) (withS_good (withoutS_fit hf i) i) (withS_good hf i) fun n => ?_
  rw [has_withS (withoutS_fit hf i) hm, ofW_withoutS hf, has_withoutS hf, has_withS hf hm, hm, Bool.true_and]
  cases has (ofW a) n <;> cases decide (n = i.toNat) <;> rfl
theorem turn2 {i : Int} (hm : mayB i = true) : withoutS (withS a i) i = withoutS a i := by
  refine good_ext (withoutS_fit (withS_fit hf i) i) (withoutS_fit hf i) (withoutS_good (withS_fit hf i) i) (withoutS_good hf i) fun n => ?_
  rw [has_withoutS (withS_fit hf i), ofW_withS hf, has_withS hf hm, has_withoutS hf, hm, Bool.true_and]
  cases has (ofW a) n <;> cases decide (n = i.toNat) <;> rfl
theorem count_with {i : Int} (hm : mayB i = true) : (nums (withS a i)).length = if has (ofW a) i.toNat = true then (nums (ofW a)).length else (nums (ofW a)).length + 1 := by
  split
  · rename_i h
    congr 1
    rw [nums_ext (withS_fit hf i) (ofW_fit hf)]
    intro n
    rw [has_withS hf hm]
    by_cases hn : n = i.toNat
    · subst hn; rw [h]; rfl
    · rw [decide_eq_false hn, Bool.or_false]
  · rename_i h
    refine (nums_perm (withS_fit hf i) (l := i.toNat :: nums (ofW a)) ?_ ?_).trans rfl
    · rw [List.nodup_cons]
      exact ⟨fun hc => h ((mem_nums (ofW_fit hf)).1 hc), nums_nodup (ofW_fit hf)⟩
    · intro n
      rw [has_withS hf hm, Bool.or_eq_true, decide_eq_true_iff, List.mem_cons, mem_nums (ofW_fit hf), or_comm]
theorem count_without {i : Int} (hm : mayB i = true) : (nums (ofW a)).length = if has (ofW a) i.toNat = true then (nums (withoutS a i)).length + 1 else (nums (withoutS a i)).length := by
  split
  · rename_i h
    refine (nums_perm (ofW_fit hf) (l := i.toNat :: nums (withoutS a i)) ?_ ?_).trans rfl
    · rw [List.nodup_cons]
      refine ⟨fun hc => ?_, nums_nodup (withoutS_fit hf i)⟩
      rw [mem_nums (withoutS_fit hf i), has_withoutS hf, hm] at hc
      simp at hc
    · intro n
      rw [List.mem_cons, mem_nums (withoutS_fit hf i), has_withoutS hf, hm, Bool.true_and]
      by_cases hn : n = i.toNat
      · subst hn; simp [h]
      · simp [hn]
  · rename_i h
    congr 1
    rw [nums_ext (ofW_fit hf) (withoutS_fit hf i)]
    intro n
    rw [has_withoutS hf, hm, Bool.true_and]
    by_cases hn : n = i.toNat
    · subst hn; rw [Bool.eq_false_iff.2 h]; rfl
    · rw [decide_eq_false hn]; simp
end
end Go.Proofs.YtkiklbngfocljaaDoor
