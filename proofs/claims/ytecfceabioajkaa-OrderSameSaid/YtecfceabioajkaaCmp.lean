/- Contracts of the comparisons: cmp.Compare at int and at string, order.Keys; the three-way comparison of whole numbers, of texts byte by byte. -/
import Derived.Test.YtecfceabioajkaaRows
import Derived.Test.YtecfceabioajkaaBase
import Derived.Test.YtecfceabioajkaaOrd
namespace Go.Proofs.Ytecfceabioajkaa
open Go.RowKit

def cmpI (a b : Int) : Int := if a < b then -1 else if b < a then 1 else 0
def ltI (a b : Int) : Bool := decide (a < b)
theorem cmpI_lt (a b : Int) : decide (cmpI a b < 0) = ltI a b := by unfold cmpI ltI; (repeat' split) <;> simp <;> omega
theorem cmpI_eq (a b : Int) : (cmpI a b == 0) = (a == b) := by unfold cmpI; (repeat' split) <;> simp <;> omega

def cmpP (x y : Int × Int) : Int := cmpI x.1 y.1
def ltP (x y : Int × Int) : Bool := ltI x.1 y.1
theorem cmpP_lt (x y : Int × Int) : decide (cmpP x y < 0) = ltP x y := cmpI_lt _ _
theorem swo_P : SWO ltP := ⟨fun a => by simp [ltP, ltI], fun a b c h1 h2 => by simp [ltP, ltI] at *; omega, fun a b c h1 h2 => by simp [ltP, ltI] at *; omega⟩

set_option maxHeartbeats 400000 in
theorem nan_int (a : Int) (w : World) :
    Calls Try.prog 43 #[.int .i64 a] w fun e w' => e = .returned (.bool false) ∧ w = w' := by
  go_enter Try.func43, Try.ntmps43
  go_wp2
  go_ret
  exact ⟨rfl, rfl⟩

set_option maxHeartbeats 400000 in
theorem compare_int (a b : Int) (w : World) :
    Calls Try.prog 37 #[.int .i64 a, .int .i64 b] w fun e w' => e = .returned (.int .i64 (cmpI a b)) ∧ w = w' := by
  go_enter Try.func37, Try.ntmps37
  go_wp2_with (go_at_call 43; refine (nan_int _ _).mono ?_; rintro e w' ⟨rfl, rfl⟩)
  all_goals
    go_ret
    refine ⟨ret_int ?_, rfl⟩
    unfold cmpI
    (repeat' split) <;> omega

set_option maxHeartbeats 400000 in
theorem keys_any (a b p q : Int) (w : World) :
    Calls Try.prog 11 #[.agg #[.int .i64 a, .int .i64 p], .agg #[.int .i64 b, .int .i64 q]] w fun e w' => e = .returned (.int .i64 (cmpI a b)) ∧ (w.alloc (.cells #[.int .i64 a, .int .i64 p] 26)).alloc (.cells #[.int .i64 b, .int .i64 q] 26) = w' := by
  go_enter Try.func11, Try.ntmps11
  go_wp2_with (go_at_call 37; refine (compare_int _ _ _).mono ?_; rintro e w' ⟨rfl, rfl⟩)
  go_ret
  exact ⟨rfl, rfl⟩

/-- order.Keys: by the keys alone; it only adds memory. -/
theorem keys_ext (a p b q : Int) (w : World) :
    Calls Try.prog 11 #[.agg #[.int .i64 a, .int .i64 p], .agg #[.int .i64 b, .int .i64 q]] w fun e w' => e = .returned (.int .i64 (cmpP (a, p) (b, q))) ∧ Ext w w' :=
  (keys_any a b p q w).mono fun e w' ⟨h1, h2⟩ => ⟨h1, by rw [← h2]; exact ((Below.refl _ _).alloc (Nat.le_refl _) _).alloc (by simp) _⟩

/-! ### Texts -/
theorem less_irr : ∀ a : List UInt8, Op.bytesLess a a = false
  | [] => rfl
  | x :: a => by simp [Op.bytesLess, less_irr a]
theorem less_tr : ∀ a b c : List UInt8, Op.bytesLess a b = true → Op.bytesLess b c = true → Op.bytesLess a c = true
  | _, [], _, h, _ => by simp [Op.bytesLess] at h
  | _, _ :: _, [], _, h => by simp [Op.bytesLess] at h
  | [], _ :: _, _ :: _, _, _ => rfl
  | x :: a, y :: b, z :: c, h1, h2 => by
    simp only [Op.bytesLess, Bool.or_eq_true, decide_eq_true_eq, Bool.and_eq_true, beq_iff_eq] at *
    rcases h1 with h1 | ⟨rfl, h1⟩ <;> rcases h2 with h2 | ⟨rfl, h2⟩
    · exact .inl (UInt8.lt_trans h1 h2)
    · exact .inl h1
    · exact .inl h2
    · exact .inr ⟨rfl, less_tr a b c h1 h2⟩
theorem less_tot : ∀ a b : List UInt8, Op.bytesLess a b = false → Op.bytesLess b a = false → a = b
  | [], [], _, _ => rfl
  | [], _ :: _, h, _ => by simp [Op.bytesLess] at h
  | _ :: _, [], _, h => by simp [Op.bytesLess] at h
  | x :: a, y :: b, h1, h2 => by
    simp only [Op.bytesLess, Bool.or_eq_false_iff, decide_eq_false_iff_not, Bool.and_eq_false_iff] at *
    have hxy : x = y := by
      have := h1.1; have := h2.1
      exact UInt8.le_antisymm (UInt8.not_lt.1 h2.1) (UInt8.not_lt.1 h1.1)
    subst hxy
    rw [less_tot a b (by simpa using h1.2) (by simpa using h2.2)]
theorem less_inc (a b c : List UInt8) (h1 : Op.bytesLess a b = false) (h2 : Op.bytesLess b c = false) : Op.bytesLess a c = false := by
  cases h : Op.bytesLess a c
  · rfl
  · cases hb : Op.bytesLess b a
    · have := less_tot a b h1 hb
      subst this; rw [h] at h2; cases h2
    · rw [less_tr _ _ _ hb h] at h2; cases h2

def ltS (a b : ByteArray) : Bool := Op.bytesLess a.toList b.toList
def cmpS (a b : ByteArray) : Int := if ltS a b then -1 else if !(a.toList == b.toList) then 1 else 0
theorem cmpS_lt (a b : ByteArray) : decide (cmpS a b < 0) = ltS a b := by unfold cmpS; (repeat' split) <;> simp_all
theorem cmpS_eq (a b : ByteArray) : (cmpS a b == 0) = (a.toList == b.toList) := by
  unfold cmpS
  by_cases h : a.toList = b.toList
  · have : ltS a b = false := by unfold ltS; rw [h]; exact less_irr _
    simp [this, h]
  · (repeat' split) <;> simp_all
theorem swo_S : SWO ltS := ⟨fun a => less_irr _, fun a b c => less_tr _ _ _, fun a b c => less_inc _ _ _⟩

set_option maxHeartbeats 400000 in
theorem nan_str (a : ByteArray) (w : World) :
    Calls Try.prog 40 #[.string a] w fun e w' => e = .returned (.bool false) ∧ w = w' := by
  go_enter Try.func40, Try.ntmps40
  go_wp2
  go_ret
  exact ⟨rfl, rfl⟩

set_option maxHeartbeats 400000 in
theorem compare_str_any (a b : ByteArray) (w : World) :
    Calls Try.prog 26 #[.string a, .string b] w fun e w' => e = .returned (.int .i64 (cmpS a b)) ∧ w = w' := by
  go_enter Try.func26, Try.ntmps26
  go_wp2_with (go_at_call 40; refine (nan_str _ _).mono ?_; rintro e w' ⟨rfl, rfl⟩)
  all_goals
    go_ret
    refine ⟨ret_int ?_, rfl⟩
    unfold cmpS ltS
    simp_all
theorem compare_str (a b : ByteArray) (w : World) :
    Calls Try.prog 26 #[.string a, .string b] w fun e w' => e = .returned (.int .i64 (cmpS a b)) ∧ Ext w w' :=
  (compare_str_any a b w).mono fun e w' ⟨h1, h2⟩ => ⟨h1, by rw [← h2]; exact Below.refl _ _⟩
end Go.Proofs.Ytecfceabioajkaa
