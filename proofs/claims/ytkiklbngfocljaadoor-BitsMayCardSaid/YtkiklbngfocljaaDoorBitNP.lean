/- BitsOnes and BitsSets, in plain Lean: the document's answers are the code's. -/
import Derived.Test.YtkiklbngfocljaaDoorBitV
namespace Go.Proofs.YtkiklbngfocljaaDoor
open Go.RowKit

theorem turn_canon (ws : List Nat) (k : Nat) (h : canon ws) : canon (turnW (fun x y => x ||| y) ws k) := by
  intro x hx h0
  rw [List.getLast?_eq_getElem?, turnW_length] at hx
  by_cases hk : ws.length ≤ k / 64 + 1
  · rw [show max ws.length (k / 64 + 1) - 1 = k / 64 by omega] at hx
    have h2 : wat (turnW (fun x y => x ||| y) ws k) (k / 64) = x := by unfold wat; rw [hx]; rfl
    have h3 : has (turnW (fun x y => x ||| y) ws k) k = true := by rw [has_with]; simp
    unfold has at h3
    rw [h2, h0] at h3
    simp at h3
  · rw [show max ws.length (k / 64 + 1) - 1 = ws.length - 1 by omega] at hx
    have hp : padW ws k = ws := by unfold padW; rw [show k / 64 + 1 - ws.length = 0 by omega]; simp
    unfold turnW at hx
    rw [hp, List.getElem?_set_ne (by omega)] at hx
    exact h x (by rw [List.getLast?_eq_getElem?]; exact hx) h0
theorem ofL_canon (l : List Int) : canon (ofL l) := by
  induction l using snoc_cases with
  | h0 => exact good_nil.1
  | h1 l x ih => rw [ofL_snoc]; exact turn_canon _ _ ih
theorem ofL_good {l : List Int} (hm : ∀ x ∈ l, mayB x = true) : good (ofL l) := by
  refine ⟨ofL_canon l, fun n hn => ?_⟩
  obtain ⟨i, hi, rfl⟩ := (has_ofL l n).1 hn
  have := mayB_of (hm i hi)
  omega
theorem ofL_is {l : List Int} (hm : ∀ x ∈ l, mayB x = true) {b : List Nat} (hb : Fit b) (gb : good b) (h : ∀ n : Nat, has b n = true ↔ (n : Int) ∈ l) : ofL l = b := by
  refine good_ext (ofL_ok l hm).1 hb (ofL_good hm) gb fun n => ?_
  rw [Bool.eq_iff_iff, has_ofL, h]
  constructor
  · rintro ⟨i, hi, rfl⟩
    have := (mayB_of (hm i hi)).1
    rw [Int.toNat_of_nonneg this]; exact hi
  · intro hc; exact ⟨_, hc, by simp⟩
theorem mem_someL {a b : List Int} {f : Bool} {x : Int} : x ∈ someL a b f ↔ x ∈ a ∧ hasL b x = f := by
  unfold someL
  rw [List.mem_filter, beq_iff_eq]
/-- the numbers of a set -/
def numL (a : List Nat) : List Int := natsI (nums (ofW a))
theorem mem_numL {a : List Nat} (hf : Fit a) {n : Nat} : (n : Int) ∈ numL a ↔ has (ofW a) n = true := by
  unfold numL
  rw [mem_natsI]
  constructor
  · rintro ⟨m, hm, he⟩
    obtain rfl : m = n := by omega
    exact (mem_nums (ofW_fit hf)).1 hm
  · intro h; exact ⟨n, (mem_nums (ofW_fit hf)).2 h, rfl⟩
theorem numL_may {a : List Nat} (hf : Fit a) : ∀ x ∈ numL a, mayB x = true := natsI_may hf
theorem ones_has {a : List Nat} (hf : Fit a) (p : Int) : (mayB p && has (ofW a) p.toNat) = hasL (numL a) p := by
  unfold hasL
  cases hm : mayB p with
  | false =>
    rw [Bool.false_and]
    exact (decide_eq_false (fun hc => by rw [numL_may hf p hc] at hm; cases hm)).symm
  | true =>
    obtain ⟨q, rfl⟩ : ∃ q : Nat, p = q := ⟨p.toNat, by have := (mayB_of hm).1; omega⟩
    rw [Bool.true_and, Bool.eq_iff_iff, decide_eq_true_iff, mem_numL hf]; simp
theorem ones_with {a : List Nat} (hf : Fit a) {p : Int} (hm : mayB p = true) : ofL (numL a ++ [p]) = withS a p := by
  have h0 := mayB_of hm
  refine ofL_is (fun x hx => ?_) (withS_fit hf p) (withS_good hf p) fun n => ?_
  · rcases List.mem_append.1 hx with h | h
    · exact numL_may hf x h
    · rw [List.mem_singleton.1 h]; exact hm
  · rw [has_withS hf hm, Bool.or_eq_true, List.mem_append, mem_numL hf, decide_eq_true_iff, List.mem_singleton]
    constructor
    · rintro (h | h)
      · exact .inl h
      · exact .inr (by omega)
    · rintro (h | h)
      · exact .inl h
      · exact .inr (by omega)
theorem ones_may {a : List Nat} (hf : Fit a) {p : Int} (hm : mayB p = true) : ∀ x ∈ numL a ++ [p], mayB x = true := by
  intro x hx
  rcases List.mem_append.1 hx with h | h
  · exact numL_may hf x h
  · rw [List.mem_singleton.1 h]; exact hm
theorem some_may {a : List Nat} (hf : Fit a) (b : List Int) (f : Bool) : ∀ x ∈ someL (numL a) b f, mayB x = true := fun x hx => numL_may hf x (mem_someL.1 hx).1
theorem ones_without {a : List Nat} (hf : Fit a) (p : Int) : ofL (someL (numL a) [p] false) = withoutS a p := by
  refine ofL_is (some_may hf _ _) (withoutS_fit hf p) (withoutS_good hf p) fun n => ?_
  rw [mem_someL, mem_numL hf, has_withoutS hf, Bool.and_eq_true]
  unfold hasL
  rw [decide_eq_false_iff_not, List.mem_singleton]
  constructor
  · rintro ⟨h1, h2⟩
    refine ⟨h1, fun hc => ?_⟩
    have hm : mayB p = true := by rw [← hc]; exact numL_may hf _ ((mem_numL hf).2 h1)
    rw [hm, decide_eq_true (by omega)] at h2
    cases h2
  · rintro ⟨h1, h2⟩
    refine ⟨h1, ?_⟩
    cases hm : mayB p with
    | false => rfl
    | true => have := mayB_of hm; rw [decide_eq_false (by omega)]; rfl
/-- the first one from a number on -/
def nxt (l : List Int) (p : Int) : Option Int := l.find? fun k => decide (p ≤ k)
theorem nxt_snoc (l : List Int) (x p : Int) : nxt (l ++ [x]) p = if (nxt l p).isSome = true then nxt l p else if p ≤ x then some x else none := by
  unfold nxt
  rw [List.find?_append]
  cases h : l.find? fun k => decide (p ≤ k) with
  | some y => simp
  | none =>
    by_cases hp : p ≤ x
    · simp [hp]
    · simp [hp]
theorem nxt_num (a : List Nat) (p : Int) : (nxt (numL a) p).getD 0 = nextN a p ∧ (nxt (numL a) p).isSome = nextB a p := by
  unfold nxt numL natsI nextN nextB nextW
  rw [List.find?_map]
  have he : ((fun k => decide (p ≤ k)) ∘ Int.ofNat) = fun n : Nat => decide (p ≤ (n : Int)) := rfl
  rw [he]
  cases (nums (ofW a)).find? fun n : Nat => decide (p ≤ (n : Int)) with
  | none => exact ⟨rfl, rfl⟩
  | some y => exact ⟨rfl, rfl⟩
end Go.Proofs.YtkiklbngfocljaaDoor
