/- The lattice of levels: plain facts about rows that have a join and a meet. -/
import Derived.Test.YtbmcbbcgambflaaDoorLevF
namespace Go.Proofs.YtbmcbbcgambflaaDoor
open Go.RowKit

/-- below, place by place -/
def LeL : List Int → List Int → Prop
  | x :: xs, y :: ys => x ≤ y ∧ LeL xs ys
  | [], [] => True
  | _, _ => False
theorem LeL.len : ∀ {xs ys : List Int}, LeL xs ys → xs.length = ys.length
  | [], [], _ => rfl
  | _ :: _, _ :: _, h => by simp [LeL.len h.2]
  | [], _ :: _, h => h.elim
  | _ :: _, [], h => h.elim
theorem LeL.anti : ∀ {xs ys : List Int}, LeL xs ys → LeL ys xs → xs = ys
  | [], [], _, _ => rfl
  | x :: xs, y :: ys, h, k => by rw [LeL.anti h.2 k.2, Int.le_antisymm h.1 k.1]
  | [], _ :: _, h, _ => h.elim
  | _ :: _, [], h, _ => h.elim
theorem le_max1 : ∀ {xs ys : List Int}, xs.length = ys.length → LeL xs (two dMax xs ys)
  | [], [], _ => trivial
  | x :: xs, y :: ys, h => ⟨by unfold dMax; omega, le_max1 (by simpa using h)⟩
theorem le_max2 : ∀ {xs ys : List Int}, xs.length = ys.length → LeL ys (two dMax xs ys)
  | [], [], _ => trivial
  | x :: xs, y :: ys, h => ⟨by unfold dMax; omega, le_max2 (by simpa using h)⟩
theorem le_min1 : ∀ {xs ys : List Int}, xs.length = ys.length → LeL (two dMin xs ys) xs
  | [], [], _ => trivial
  | x :: xs, y :: ys, h => ⟨by unfold dMin; omega, le_min1 (by simpa using h)⟩
theorem le_min2 : ∀ {xs ys : List Int}, xs.length = ys.length → LeL (two dMin xs ys) ys
  | [], [], _ => trivial
  | x :: xs, y :: ys, h => ⟨by unfold dMin; omega, le_min2 (by simpa using h)⟩
theorem max_le : ∀ {xs ys zs : List Int}, LeL xs zs → LeL ys zs → LeL (two dMax xs ys) zs
  | [], [], [], _, _ => trivial
  | x :: xs, y :: ys, z :: zs, h, k => ⟨by have := h.1; have := k.1; unfold dMax; omega, max_le h.2 k.2⟩
  | [], _ :: _, [], _, k => k.elim
  | [], _, _ :: _, h, _ => h.elim
  | _ :: _, _, [], h, _ => h.elim
  | _ :: _, [], _ :: _, _, k => k.elim
theorem le_min : ∀ {xs ys zs : List Int}, LeL zs xs → LeL zs ys → LeL zs (two dMin xs ys)
  | [], [], [], _, _ => trivial
  | x :: xs, y :: ys, z :: zs, h, k => ⟨by have := h.1; have := k.1; unfold dMin; omega, le_min h.2 k.2⟩
  | [], _ :: _, [], _, k => k.elim
  | [], _, _ :: _, h, _ => h.elim
  | _ :: _, _, [], h, _ => h.elim
  | _ :: _, [], _ :: _, _, k => k.elim
theorem max_eq : ∀ {xs ys : List Int}, LeL xs ys → two dMax xs ys = ys
  | [], [], _ => rfl
  | x :: xs, y :: ys, h => by have := h.1; rw [two, max_eq h.2, show dMax x y = y by unfold dMax; omega]
  | [], _ :: _, h => h.elim
  | _ :: _, [], h => h.elim
theorem min_eq : ∀ {xs ys : List Int}, LeL xs ys → two dMin xs ys = xs
  | [], [], _ => rfl
  | x :: xs, y :: ys, h => by have := h.1; rw [two, min_eq h.2, show dMin x y = x by unfold dMin; omega]
  | [], _ :: _, h => h.elim
  | _ :: _, [], h => h.elim
/-- levels stay levels -/
theorem allL_cons (x : Int) (xs : List Int) : allL (x :: xs) = true ↔ lvl x = true ∧ allL xs = true := by unfold allL; simp
theorem allL_two {D : Int → Int → Int} (hD : ∀ x y, lvl x = true → lvl y = true → lvl (D x y) = true) : ∀ {xs ys : List Int}, allL xs = true → allL ys = true → allL (two D xs ys) = true
  | [], _, _, _ => rfl
  | _ :: _, [], _, _ => rfl
  | x :: xs, y :: ys, h, k => by
    rw [allL_cons] at h k
    rw [two, allL_cons]
    exact ⟨hD x y h.1 k.1, allL_two hD h.2 k.2⟩
theorem lvl_max (x y : Int) (h : lvl x = true) (k : lvl y = true) : lvl (dMax x y) = true := by
  unfold dMax
  rcases Int.le_total x y with h1 | h1
  · rw [Int.max_eq_right h1]; exact k
  · rw [Int.max_eq_left h1]; exact h
theorem lvl_min (x y : Int) (h : lvl x = true) (k : lvl y = true) : lvl (dMin x y) = true := by
  unfold dMin
  rcases Int.le_total x y with h1 | h1
  · rw [Int.min_eq_left h1]; exact h
  · rw [Int.min_eq_right h1]; exact k
theorem eachE_zero {xs ys : List Int} : eachE xs ys = 0 ↔ allL xs = true ∧ allL ys = true ∧ xs.length = ys.length := by
  unfold eachE chk2
  by_cases h : allL xs = true ∧ allL ys = true <;> by_cases k : xs.length = ys.length <;> simp [h, k]
  all_goals (rintro h1 h2; exact absurd ⟨h1, h2⟩ h)
theorem neg_sub : ∀ {xs ys : List Int}, allL xs = true → allL ys = true → xs.length = ys.length → (anyNeg (two dSub xs ys) = false ↔ LeL xs ys)
  | [], [], _, _, _ => by simp [two, anyNeg, LeL]
  | x :: xs, y :: ys, h, k, hl => by
    rw [allL_cons] at h k
    obtain ⟨a1, a2⟩ := lvl_of h.1
    obtain ⟨b1, b2⟩ := lvl_of k.1
    have ih := neg_sub h.2 k.2 (by simpa using hl)
    have hs : dSub x y = y - x := by unfold dSub; rw [IntWalk.wrap64_in _ (by omega)]
    rw [two, hs]
    unfold anyNeg at ih ⊢
    rw [List.any_cons, Bool.or_eq_false_iff, ih]
    simp only [LeL, decide_eq_false_iff_not]
    constructor
    · rintro ⟨h1, h2⟩; exact ⟨by omega, h2⟩
    · rintro ⟨h1, h2⟩; exact ⟨by omega, h2⟩
theorem isBelow_iff {xs ys : List Int} : isBelow xs ys = true ↔ allL xs = true ∧ allL ys = true ∧ LeL xs ys := by
  unfold isBelow
  by_cases h : eachE xs ys = 0
  · rw [if_pos h]
    obtain ⟨h1, h2, h3⟩ := eachE_zero.1 h
    have hL : eachL dSub xs ys = two dSub xs ys := by unfold eachL chk2; rw [if_pos ⟨if_pos ⟨h1, h2⟩, h3⟩]
    rw [hL, Bool.not_eq_true', neg_sub h1 h2 h3]
    exact ⟨fun h => ⟨h1, h2, h⟩, fun h => h.2.2⟩
  · rw [if_neg h]
    constructor
    · intro h1; cases h1
    · rintro ⟨h1, h2, h3⟩; exact absurd (eachE_zero.2 ⟨h1, h2, h3.len⟩) h
section
variable {a b c : List Int} (h : eachE a b = 0)
include h
theorem eachL_two (D : Int → Int → Int) : eachL D a b = two D a b := by
  obtain ⟨h1, h2, h3⟩ := eachE_zero.1 h
  unfold eachL chk2
  rw [if_pos ⟨if_pos ⟨h1, h2⟩, h3⟩]
theorem lat1 : isBelow a (eachL dMax a b) = true := by
  obtain ⟨h1, h2, h3⟩ := eachE_zero.1 h
  rw [eachL_two h]
  exact isBelow_iff.2 ⟨h1, allL_two lvl_max h1 h2, le_max1 h3⟩
theorem lat2 : isBelow b (eachL dMax a b) = true := by
  obtain ⟨h1, h2, h3⟩ := eachE_zero.1 h
  rw [eachL_two h]
  exact isBelow_iff.2 ⟨h2, allL_two lvl_max h1 h2, le_max2 h3⟩
theorem lat3 : isBelow (eachL dMin a b) a = true := by
  obtain ⟨h1, h2, h3⟩ := eachE_zero.1 h
  rw [eachL_two h]
  exact isBelow_iff.2 ⟨allL_two lvl_min h1 h2, h1, le_min1 h3⟩
theorem lat4 : isBelow (eachL dMin a b) b = true := by
  obtain ⟨h1, h2, h3⟩ := eachE_zero.1 h
  rw [eachL_two h]
  exact isBelow_iff.2 ⟨allL_two lvl_min h1 h2, h2, le_min2 h3⟩
theorem lat5 : decide (eachL dMax a b = b) = isBelow a b := by
  obtain ⟨h1, h2, h3⟩ := eachE_zero.1 h
  rw [eachL_two h, Bool.eq_iff_iff, decide_eq_true_iff, isBelow_iff]
  exact ⟨fun hj => ⟨h1, h2, by have := le_max1 h3; rw [hj] at this; exact this⟩, fun hj => max_eq hj.2.2⟩
theorem lat6 : decide (eachL dMin a b = a) = isBelow a b := by
  obtain ⟨h1, h2, h3⟩ := eachE_zero.1 h
  rw [eachL_two h, Bool.eq_iff_iff, decide_eq_true_iff, isBelow_iff]
  exact ⟨fun hj => ⟨h1, h2, by have := le_min2 h3; rw [hj] at this; exact this⟩, fun hj => min_eq hj.2.2⟩
theorem lat7 (h1 : isBelow a c = true) (h2 : isBelow b c = true) : isBelow (eachL dMax a b) c = true := by
  obtain ⟨a1, a2, a3⟩ := isBelow_iff.1 h1
  obtain ⟨b1, b2, b3⟩ := isBelow_iff.1 h2
  rw [eachL_two h]
  exact isBelow_iff.2 ⟨allL_two lvl_max a1 b1, a2, max_le a3 b3⟩
theorem lat8 (h1 : isBelow c a = true) (h2 : isBelow c b = true) : isBelow c (eachL dMin a b) = true := by
  obtain ⟨a1, a2, a3⟩ := isBelow_iff.1 h1
  obtain ⟨b1, b2, b3⟩ := isBelow_iff.1 h2
  rw [eachL_two h]
  exact isBelow_iff.2 ⟨a1, allL_two lvl_min a2 b2, le_min a3 b3⟩
end
theorem lat9 {a b : List Int} (h1 : isBelow a b = true) (h2 : isBelow b a = true) : a = b := by
  obtain ⟨a1, a2, a3⟩ := isBelow_iff.1 h1
  obtain ⟨b1, b2, b3⟩ := isBelow_iff.1 h2
  exact a3.anti b3
theorem lat0 {D : Int → Int → Int} {a b : List Int} (h : eachE a b ≠ 0) : eachL D a b = [] := by
  unfold eachL
  rw [if_neg]
  rintro ⟨h1, h2⟩
  unfold eachE at h
  rw [if_pos h1, if_pos h2] at h
  exact h rfl
end Go.Proofs.YtbmcbbcgambflaaDoor
