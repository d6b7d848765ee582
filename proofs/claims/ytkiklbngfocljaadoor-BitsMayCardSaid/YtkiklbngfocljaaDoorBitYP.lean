/- BitsSets, in plain Lean: the document's answers are the code's. -/
import Derived.Test.YtkiklbngfocljaaDoorBitXQ
import Derived.Test.YtkiklbngfocljaaDoorBitK
namespace Go.Proofs.YtkiklbngfocljaaDoor
open Go.RowKit

theorem numL_len {a : List Nat} (h : a.length ≤ 160) : (numL a).length ≤ 10240 := by
  unfold numL natsI
  rw [List.length_map]
  have h1 := nums_length (ofW a)
  have h2 := ofW_le a
  omega
theorem someL_len (a b : List Int) (f : Bool) : (someL a b f).length ≤ a.length := List.length_filter_le _ _
theorem lrow {w : World} {g : Nat} {L : List LArg} (hlt : g < w.heap.size) (hc : ∀ i s, L[i]? = some s → w.cell? ⟨g, i, none⟩ = some (.slice s.1.1 s.1.2.1 s.1.2.2)) (hs : ∀ s ∈ L, LOk w s) : LRow w (some ⟨g, 0, none⟩) L :=
  ⟨.inr ⟨g, 0, rfl, hlt, fun i s h => by rw [Nat.zero_add]; exact hc i s h⟩, hs⟩
theorem cells_atI {w : World} {t : TypeId} {cs : List Value} {L : List LArg} (h : cs = L.map fun s => .slice s.1.1 s.1.2.1 s.1.2.2) : ∀ i s, L[i]? = some s → (w.alloc (.cells cs.toArray t)).cell? ⟨w.heap.size, i, none⟩ = some (.slice s.1.1 s.1.2.1 s.1.2.2) := by
  intro i s hi
  have h1 := heap_alloc_new w (.cells cs.toArray t)
  unfold World.cell?
  rw [h1]
  simp [h, hi]
theorem lok {w : World} {A : Option Addr} {n c : Nat} {e : TypeId} {base : Nat} {a : List Int} (h : Own intE e base w (.slice A n c) a) (hn : n = a.length) (hl : n ≤ 20000) : LOk w ((A, n, c), a) := ⟨rdO h, hn, by rw [← hn]; exact hl⟩
theorem all1 {α : Type} {p : α → Prop} {a : α} (h1 : p a) : ∀ v ∈ [a], p v := by
  intro v hv
  rw [List.mem_singleton] at hv; subst hv; exact h1
section
variable {a b c : List Nat} (ha : Fit a) (hb : Fit b)
include ha
theorem sets_one : ofL (numL a) = uni [a] := by
  have h1 : ∀ v ∈ [a], Fit v := fun v hv => by rw [List.mem_singleton.1 hv]; exact ha
  refine ofL_is (numL_may ha) (uni_fit _ h1) (uni_good _ h1) fun n => ?_
  rw [has_uni, mem_numL ha]
  simp
include hb
theorem sets_meet : ofL (someL (numL a) (numL b) true) = meetW a b := by
  refine ofL_is (some_may ha _ _) (meet_fit ha hb) (meet_good ha b) fun n => ?_
  rw [mem_someL, mem_numL ha, has_meet, Bool.and_eq_true]
  unfold hasL
  rw [decide_eq_true_iff, mem_numL hb]
theorem sets_minus : ofL (someL (numL a) (numL b) false) = minusW a b := by
  refine ofL_is (some_may ha _ _) (minusW_fit ha hb) (minusW_good ha hb) fun n => ?_
  rw [mem_someL, mem_numL ha, has_minusW a hb, Bool.and_eq_true]
  unfold hasL
  rw [decide_eq_false_iff_not, mem_numL hb]
  cases has (ofW b) n <;> simp
theorem sets_within : decide (minusW a b = []) = decide ((someL (numL a) (numL b) false).length = 0) := by
  rw [Bool.eq_iff_iff, decide_eq_true_iff, decide_eq_true_iff, ← sets_minus ha hb, List.length_eq_zero_iff]
  constructor
  · intro h
    rw [List.eq_nil_iff_forall_not_mem]
    intro x hx
    have hm := mayB_of (some_may ha _ _ x hx)
    have h2 := (has_ofL (someL (numL a) (numL b) false) x.toNat).2 ⟨x, hx, rfl⟩
    rw [h] at h2
    simp [has, wat] at h2
  · intro h
    rw [h]
    rfl
variable (hc : Fit c)
include hc
theorem sets_may : ∀ x ∈ numL a ++ (numL b ++ (numL c ++ [])), mayB x = true := by
  intro x hx
  rw [List.append_nil] at hx
  rcases List.mem_append.1 hx with h | h
  · exact numL_may ha x h
  · rcases List.mem_append.1 h with h | h
    · exact numL_may hb x h
    · exact numL_may hc x h
theorem sets_all : ofL (numL a ++ (numL b ++ (numL c ++ []))) = uni [a, b, c] := by
  have h3 : ∀ v ∈ [a, b, c], Fit v := all3 (p := Fit) ha hb hc
  refine ofL_is (sets_may ha hb hc) (uni_fit _ h3) (uni_good _ h3) fun n => ?_
  rw [has_uni, List.append_nil, List.mem_append, List.mem_append, mem_numL ha, mem_numL hb, mem_numL hc]
  simp [Bool.or_eq_true, or_assoc]
end
end Go.Proofs.YtkiklbngfocljaaDoor
