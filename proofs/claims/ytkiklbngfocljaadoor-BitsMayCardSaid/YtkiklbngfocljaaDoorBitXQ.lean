/- BitsParts, in plain Lean. -/
import Derived.Test.YtkiklbngfocljaaDoorBitXP
namespace Go.Proofs.YtkiklbngfocljaaDoor
open Go.RowKit

section
variable {a b c : List Nat} (ha : Fit a) (hb : Fit b)
include ha hb
theorem ofW_minusW : ofW (minusW a b) = minusW a b := ofW_id (minusW_fit ha hb) (minusW_good ha hb)
theorem ofW_meet : ofW (meetW a b) = meetW a b := ofW_id (meet_fit ha hb) (meet_good ha b)
theorem ofW_uni2 : ofW (uni [a, b]) = uni [a, b] := ofW_id (uni_fit _ (all2 (p := Fit) ha hb)) (uni_good _ (all2 (p := Fit) ha hb))
theorem parts_all : uni [minusW a b, meetW a b, minusW b a] = uni [a, b] := by
  have h3 : ∀ v ∈ [minusW a b, meetW a b, minusW b a], Fit v := by
    intro v hv
    rcases List.mem_cons.1 hv with rfl | hv
    · exact minusW_fit ha hb
    · exact all2 (p := Fit) (meet_fit ha hb) (minusW_fit hb ha) v hv
  refine good_ext (uni_fit _ h3) (uni_fit _ (all2 (p := Fit) ha hb)) (uni_good _ h3) (uni_good _ (all2 (p := Fit) ha hb)) fun n => ?_
  rw [has_uni, has_uni]
  simp only [List.any_cons, List.any_nil, Bool.or_false]
  rw [ofW_minusW ha hb, ofW_meet ha hb, ofW_minusW hb ha, has_minusW a hb, has_meet, has_minusW b ha]
  cases has (ofW a) n <;> cases has (ofW b) n <;> rfl
theorem parts_count : (nums (ofW (uni [a, b]))).length = (nums (ofW (minusW a b))).length + (nums (ofW (meetW a b))).length + (nums (ofW (minusW b a))).length := by
  rw [ofW_minusW ha hb, ofW_meet ha hb, ofW_minusW hb ha, ofW_uni2 ha hb]
  have hfU := uni_fit _ (all2 (p := Fit) ha hb)
  have h1 := minusW_fit ha hb
  have h2 := meet_fit ha hb
  have h3 := minusW_fit hb ha
  rw [nums_perm hfU (l := nums (minusW a b) ++ nums (meetW a b) ++ nums (minusW b a)) ?_ ?_]
  · rw [List.length_append, List.length_append]
  · rw [List.nodup_append, List.nodup_append]
    refine ⟨⟨nums_nodup h1, nums_nodup h2, ?_⟩, nums_nodup h3, ?_⟩
    · intro x hx y hy hxy
      subst hxy
      rw [mem_nums h1, has_minusW a hb] at hx
      rw [mem_nums h2, has_meet] at hy
      cases hA : has (ofW a) x <;> cases hB : has (ofW b) x <;> simp [hA, hB] at hx hy
    · intro x hx y hy hxy
      subst hxy
      rw [mem_nums h3, has_minusW b ha] at hy
      rcases List.mem_append.1 hx with hx | hx
      · rw [mem_nums h1, has_minusW a hb] at hx
        cases hA : has (ofW a) x <;> cases hB : has (ofW b) x <;> simp [hA, hB] at hx hy
      · rw [mem_nums h2, has_meet] at hx
        cases hA : has (ofW a) x <;> cases hB : has (ofW b) x <;> simp [hA, hB] at hx hy
  · intro n
    rw [List.mem_append, List.mem_append, mem_nums h1, mem_nums h2, mem_nums h3, has_uni, has_minusW a hb, has_meet, has_minusW b ha]
    simp only [List.any_cons, List.any_nil, Bool.or_false]
    cases has (ofW a) n <;> cases has (ofW b) n <;> simp
theorem parts_none : nums (ofW (meetW (minusW a b) (minusW b a))) = [] := by
  have h1 := meet_fit (minusW_fit ha hb) (minusW_fit hb ha)
  rw [ofW_meet (minusW_fit ha hb) (minusW_fit hb ha), List.eq_nil_iff_forall_not_mem]
  intro n hn
  rw [mem_nums h1, has_meet, ofW_minusW ha hb, ofW_minusW hb ha, has_minusW a hb, has_minusW b ha] at hn
  cases hA : has (ofW a) n <;> cases hB : has (ofW b) n <;> simp [hA, hB] at hn
theorem uni_comm : uni [b, a] = uni [a, b] := by
  refine good_ext (uni_fit _ (all2 (p := Fit) hb ha)) (uni_fit _ (all2 (p := Fit) ha hb)) (uni_good _ (all2 (p := Fit) hb ha)) (uni_good _ (all2 (p := Fit) ha hb)) fun n => ?_
  rw [has_uni, has_uni]
  simp only [List.any_cons, List.any_nil, Bool.or_false]
  rw [Bool.or_comm]
theorem meet_comm : meetW b a = meetW a b := by
  refine good_ext (meet_fit hb ha) (meet_fit ha hb) (meet_good hb a) (meet_good ha b) fun n => ?_
  rw [has_meet, has_meet, Bool.and_comm]
/-- nothing is left -/
theorem minus_nil : minusW a b = [] ↔ ∀ n, has (ofW a) n = true → has (ofW b) n = true := by
  constructor
  · intro h n hn
    have h1 := has_minusW a hb n
    rw [h, hn] at h1
    have h2 : has [] n = false := by simp [has, wat]
    rw [h2] at h1
    cases hB : has (ofW b) n with
    | true => rfl
    | false => rw [hB] at h1; cases h1
  · intro h
    refine good_ext (minusW_fit ha hb) (fun x hx => by cases hx) (minusW_good ha hb) good_nil fun n => ?_
    rw [has_minusW a hb]
    have h2 : has [] n = false := by simp [has, wat]
    rw [h2]
    cases hA : has (ofW a) n with
    | false => rfl
    | true => rw [h n hA]; rfl
theorem in_all : minusW a (uni [a, b]) = [] := by
  rw [minus_nil ha (uni_fit _ (all2 (p := Fit) ha hb)), ofW_uni2 ha hb]
  intro n hn
  rw [has_uni]
  simp [hn]
theorem in_meet : minusW (meetW a b) a = [] := by
  rw [minus_nil (meet_fit ha hb) ha, ofW_meet ha hb]
  intro n hn
  rw [has_meet, Bool.and_eq_true] at hn
  exact hn.1
theorem in_minus : minusW (minusW a b) a = [] := by
  rw [minus_nil (minusW_fit ha hb) ha, ofW_minusW ha hb]
  intro n hn
  rw [has_minusW a hb, Bool.and_eq_true] at hn
  exact hn.1
theorem both_same : (decide (minusW a b = []) && decide (minusW b a = [])) = decide (ofW a = ofW b) := by
  rw [Bool.eq_iff_iff, Bool.and_eq_true, decide_eq_true_iff, decide_eq_true_iff, decide_eq_true_iff, minus_nil ha hb, minus_nil hb ha]
  constructor
  · rintro ⟨h1, h2⟩
    refine good_ext (ofW_fit ha) (ofW_fit hb) (ofW_good ha) (ofW_good hb) fun n => ?_
    rw [Bool.eq_iff_iff]
    exact ⟨h1 n, h2 n⟩
  · intro h
    rw [h]
    exact ⟨fun n hn => hn, fun n hn => hn⟩
variable (hc : Fit c)
include hc
theorem dist : meetW a (uni [b, c]) = uni [meetW a b, meetW a c] := by
  have hu := uni_fit _ (all2 (p := Fit) hb hc)
  have hm := all2 (p := Fit) (meet_fit ha hb) (meet_fit ha hc)
  refine good_ext (meet_fit ha hu) (uni_fit _ hm) (meet_good ha _) (uni_good _ hm) fun n => ?_
  rw [has_meet, ofW_uni2 hb hc, has_uni, has_uni]
  simp only [List.any_cons, List.any_nil, Bool.or_false]
  rw [ofW_meet ha hb, ofW_meet ha hc, has_meet, has_meet, Bool.and_or_distrib_left]
theorem minus_uni : minusW a (uni [b, c]) = minusW (minusW a b) c := by
  have hu := uni_fit _ (all2 (p := Fit) hb hc)
  have hp := minusW_fit ha hb
  refine good_ext (minusW_fit ha hu) (minusW_fit hp hc) (minusW_good ha hu) (minusW_good hp hc) fun n => ?_
  rw [has_minusW a hu, ofW_uni2 hb hc, has_uni, has_minusW _ hc, ofW_minusW ha hb, has_minusW a hb]
  simp only [List.any_cons, List.any_nil, Bool.or_false]
  cases has (ofW a) n <;> cases has (ofW b) n <;> cases has (ofW c) n <;> rfl
end
end Go.Proofs.YtkiklbngfocljaaDoor
