/- names: what Move tells, plainly. -/
import Derived.Test.YtpfmbehhppbcnaaDoorNamM
namespace Go.Proofs.YtpfmbehhppbcnaaDoor
open Go.RowKit

theorem rdO {α : Type} {E : El α} {e : TypeId} {base : Nat} {w : World} {A : Option Addr} {n c : Nat} {xs : List α} (h : Own E e base w (.slice A n c) xs) : Rd E w.heap.size w A xs := by
  obtain ⟨A', c', heq, hr, -, -⟩ := h.rd
  injection heq with h1
  subst h1
  exact hr
theorem at_self {a : List ByteArray} (hnd : a.Nodup) {k : Nat} {s : ByteArray} (h : a[k]? = some s) : at_ a s = k := by
  refine at_some h fun y hy hys => ?_
  subst hys
  obtain ⟨j, hj⟩ := List.mem_iff_getElem?.1 hy
  rw [List.getElem?_take] at hj
  split at hj
  · rename_i hjk
    obtain ⟨h1, h2⟩ := List.getElem?_eq_some_iff.1 h
    obtain ⟨h3, h4⟩ := List.getElem?_eq_some_iff.1 hj
    exact (List.pairwise_iff_getElem.1 hnd j k h3 h1 hjk) (h4.trans h2.symm)
  · cases hj
theorem at_lt {a : List ByteArray} {s : ByteArray} (h : s ∈ a) : at_ a s < a.length := (List.getElem?_eq_some_iff.1 (at_mem h)).1
theorem fine_nodup {a : List ByteArray} (h : fineB a = true) : a.Nodup := by
  unfold fineB at h
  rw [Bool.and_eq_true] at h
  exact of_decide_eq_true h.1
theorem moveE_self (a : List ByteArray) : moveE a a = finE a := by
  unfold moveE finE
  cases fineB a with
  | false => rfl
  | true =>
    have : (a.all fun s => decide (s ∈ a)) = true := by rw [List.all_eq_true]; intro y hy; exact decide_eq_true hy
    rw [this]; rfl
theorem moveE_ok {a b : List ByteArray} (h : moveE a b = 0) : fineB a = true ∧ fineB b = true ∧ ∀ s ∈ a, s ∈ b := by
  unfold moveE at h
  by_cases h1 : (fineB a && fineB b) = false
  · rw [if_pos h1] at h; cases h
  · rw [if_neg h1] at h
    have h1' : fineB a = true ∧ fineB b = true := by simpa using h1
    by_cases h2 : (a.all fun s => decide (s ∈ b)) = true
    · exact ⟨h1'.1, h1'.2, fun s hs => of_decide_eq_true (List.all_eq_true.1 h2 s hs)⟩
    · rw [if_neg h2] at h; cases h
theorem moveE_yes {a b : List ByteArray} (h1 : fineB a = true) (h2 : fineB b = true) (h3 : ∀ s ∈ a, s ∈ b) : moveE a b = 0 := by
  unfold moveE
  rw [h1, h2]
  have : (a.all fun s => decide (s ∈ b)) = true := by rw [List.all_eq_true]; intro y hy; exact decide_eq_true (h3 y hy)
  rw [this]; rfl
theorem moveL_yes {a b : List ByteArray} (h : moveE a b = 0) : moveL a b = a.map fun s => (at_ b s : Int) := by unfold moveL; rw [if_pos h]
theorem moveL_no {a b : List ByteArray} (h : ¬ moveE a b = 0) : moveL a b = [] := by unfold moveL; rw [if_neg h]
theorem self_at {a : List ByteArray} (h : moveE a a = 0) {k : Nat} {z : Int} (hz : (moveL a a)[k]? = some z) : z = k := by
  rw [moveL_yes h, List.getElem?_map] at hz
  cases hs : a[k]? with
  | none => rw [hs] at hz; cases hz
  | some s =>
    rw [hs, Option.map_some] at hz
    injection hz with hz
    rw [← hz, at_self (fine_nodup (moveE_ok h).1) hs]
theorem moveE_on {a b c : List ByteArray} (h1 : moveE a b = 0) (h2 : moveE b c = 0) : moveE a c = 0 :=
  moveE_yes (moveE_ok h1).1 (moveE_ok h2).2.1 fun s hs => (moveE_ok h2).2.2 s ((moveE_ok h1).2.2 s hs)
theorem moveL_len {a b : List ByteArray} (h : moveE a b = 0) : (moveL a b).length = a.length := by rw [moveL_yes h, List.length_map]
/-- moved from one to another, and on, is moved from the first to the last -/
theorem moveL_on {a b c : List ByteArray} (h1 : moveE a b = 0) (h2 : moveE b c = 0) {k : Nat} {z : Int} (hz : (moveL a b)[k]? = some z) :
    ∃ (m : Nat) (u : Int), z = m ∧ (moveL b c)[m]? = some u ∧ (moveL a c)[k]? = some u := by
  rw [moveL_yes h1, List.getElem?_map] at hz
  cases hs : a[k]? with
  | none => rw [hs] at hz; cases hz
  | some s =>
    rw [hs, Option.map_some] at hz
    injection hz with hz
    have hb := at_mem ((moveE_ok h1).2.2 s (List.mem_of_getElem? hs))
    refine ⟨at_ b s, at_ c s, hz.symm, ?_, ?_⟩
    · rw [moveL_yes h2, List.getElem?_map, hb]; rfl
    · rw [moveL_yes (moveE_on h1 h2), List.getElem?_map, hs]; rfl
end Go.Proofs.YtpfmbehhppbcnaaDoor
