/- Sets together (BitsParts, BitsSets), in plain Lean; and a row of two sets, of three, in memory. -/
import Derived.Test.YtkiklbngfocljaaDoorBitNP
namespace Go.Proofs.YtkiklbngfocljaaDoor
open Go.RowKit

def uni (ls : List (List Nat)) : List Nat := ls.foldl (fun out v => trimW (joinL (fun x y => x ||| y) out (ofW v))) []
theorem unionL_eq (L : List SArg) : unionL L = uni (L.map (·.2)) := by unfold unionL uni; rw [List.foldl_map]
theorem uni_snoc (ls : List (List Nat)) (v : List Nat) : uni (ls ++ [v]) = trimW (joinL (fun x y => x ||| y) (uni ls) (ofW v)) := by unfold uni; rw [List.foldl_append]; rfl
theorem has_uni (ls : List (List Nat)) (n : Nat) : has (uni ls) n = ls.any fun v => has (ofW v) n := by
  induction ls using snoc_cases with
  | h0 => simp [uni, has, wat]
  | h1 l v ih => rw [uni_snoc, trimW_has, has_or, ih, List.any_append]; simp
theorem uni_fit (ls : List (List Nat)) : (∀ v ∈ ls, Fit v) → Fit (uni ls) := by
  refine snoc_cases (fun ls => (∀ v ∈ ls, Fit v) → Fit (uni ls)) (fun _ x hx => (by cases hx)) (fun l v ih h => ?_) ls
  rw [uni_snoc]
  exact trimW_fit (joinL_fit (fun x y => or_fit) (ih fun x hx => h x (by simp [hx])) (ofW_fit (h v (by simp))))
theorem uni_len (m : Nat) (ls : List (List Nat)) : (∀ v ∈ ls, v.length ≤ m) → (uni ls).length ≤ m := by
  refine snoc_cases (fun ls => (∀ v ∈ ls, v.length ≤ m) → (uni ls).length ≤ m) (fun _ => Nat.zero_le _) (fun l v ih h => ?_) ls
  rw [uni_snoc]
  refine Nat.le_trans (trimW_len _) ?_
  have h1 := ih fun x hx => h x (by simp [hx])
  have h2 := Nat.le_trans (ofW_le v) (h v (by simp))
  rw [joinL_length]
  omega
theorem uni_good (ls : List (List Nat)) (h : ∀ v ∈ ls, Fit v) : good (uni ls) := by
  have hb : ∀ n, has (uni ls) n = true → n < 10000 := by
    intro n hn
    rw [has_uni, List.any_eq_true] at hn
    obtain ⟨v, hv, h2⟩ := hn
    exact (ofW_good (h v hv)).2 n h2
  refine ⟨?_, hb⟩
  revert h
  refine snoc_cases (fun ls => (∀ v ∈ ls, Fit v) → canon (uni ls)) (fun _ => good_nil.1) (fun l v _ _ => ?_) ls
  rw [uni_snoc]
  exact trimW_canon _
def meetW (a b : List Nat) : List Nat := trimW (joinL (fun x y => x &&& y) (ofW a) (ofW b))
def minusW (a b : List Nat) : List Nat := trimW (joinL minusN (ofW a) (ofW b))
section
variable {a b : List Nat} (ha : Fit a) (hb : Fit b)
include ha hb
theorem meet_fit : Fit (meetW a b) := trimW_fit (joinL_fit (fun x y => and_fit) (ofW_fit ha) (ofW_fit hb))
theorem minusW_fit : Fit (minusW a b) := trimW_fit (joinL_fit (fun x y => minus_fit) (ofW_fit ha) (ofW_fit hb))
end
theorem has_meet (a b : List Nat) (n : Nat) : has (meetW a b) n = (has (ofW a) n && has (ofW b) n) := by unfold meetW; rw [trimW_has, has_and]
theorem has_minusW (a : List Nat) {b : List Nat} (hb : Fit b) (n : Nat) : has (minusW a b) n = (has (ofW a) n && !has (ofW b) n) := by unfold minusW; rw [trimW_has, has_minus (ofW_fit hb)]
theorem meet_good {a : List Nat} (ha : Fit a) (b : List Nat) : good (meetW a b) := ⟨trimW_canon _, fun n hn => by rw [has_meet, Bool.and_eq_true] at hn; exact (ofW_good ha).2 n hn.1⟩
theorem minusW_good {a b : List Nat} (ha : Fit a) (hb : Fit b) : good (minusW a b) := ⟨trimW_canon _, fun n hn => by rw [has_minusW a hb, Bool.and_eq_true] at hn; exact (ofW_good ha).2 n hn.1⟩
theorem meet_len (m : Nat) {a b : List Nat} (h1 : a.length ≤ m) (h2 : b.length ≤ m) : (meetW a b).length ≤ m := by
  have h3 := ofW_le a
  have h4 := ofW_le b
  refine Nat.le_trans (trimW_len _) ?_
  rw [joinL_length]
  omega
theorem minusW_len (m : Nat) {a b : List Nat} (h1 : a.length ≤ m) (h2 : b.length ≤ m) : (minusW a b).length ≤ m := by
  have h3 := ofW_le a
  have h4 := ofW_le b
  refine Nat.le_trans (trimW_len _) ?_
  rw [joinL_length]
  omega
theorem srow {w : World} {g : Nat} {L : List SArg} (hlt : g < w.heap.size) (hc : ∀ i s, L[i]? = some s → w.cell? ⟨g, i, none⟩ = some (.slice s.1.1 s.1.2.1 s.1.2.2)) (hs : ∀ s ∈ L, SOk w s) : SRow w (some ⟨g, 0, none⟩) L :=
  ⟨.inr ⟨g, 0, rfl, hlt, fun i s h => by rw [Nat.zero_add]; exact hc i s h⟩, hs⟩
theorem cells_at {w : World} {t : TypeId} {cs : List Value} {L : List SArg} (h : cs = L.map fun s => .slice s.1.1 s.1.2.1 s.1.2.2) : ∀ i s, L[i]? = some s → (w.alloc (.cells cs.toArray t)).cell? ⟨w.heap.size, i, none⟩ = some (.slice s.1.1 s.1.2.1 s.1.2.2) := by
  intro i s hi
  have h1 := heap_alloc_new w (.cells cs.toArray t)
  unfold World.cell?
  rw [h1]
  simp [h, hi]
theorem all2 {α : Type} {p : α → Prop} {a b : α} (h1 : p a) (h2 : p b) : ∀ v ∈ [a, b], p v := by
  intro v hv
  rcases List.mem_cons.1 hv with rfl | hv
  · exact h1
  · rw [List.mem_singleton] at hv; subst hv; exact h2
theorem all3 {α : Type} {p : α → Prop} {a b c : α} (h1 : p a) (h2 : p b) (h3 : p c) : ∀ v ∈ [a, b, c], p v := by
  intro v hv
  rcases List.mem_cons.1 hv with rfl | hv
  · exact h1
  · exact all2 h2 h3 v hv
theorem rdO {α : Type} {E : El α} {e : TypeId} {base : Nat} {w : World} {A : Option Addr} {n c : Nat} {xs : List α} (h : Own E e base w (.slice A n c) xs) : Rd E w.heap.size w A xs := by
  obtain ⟨A', c', heq, hr, -, -⟩ := h.rd
  injection heq with h1
  subst h1
  exact hr
theorem SRow.ext {w w' : World} {A : Option Addr} {L : List SArg} (h : SRow w A L) (hE : Ext w w') : SRow w' A L := by
  refine ⟨?_, fun s hs => (h.2 s hs).ext hE⟩
  rcases h.1 with h0 | ⟨b, off, e, hb, hc⟩
  · exact .inl h0
  · exact .inr ⟨b, off, e, Nat.lt_of_lt_of_le hb hE.size, fun i s hi => ((bcell hE).1 b _ hb).trans (hc i s hi)⟩
theorem sok {w : World} {A : Option Addr} {n c : Nat} {e : TypeId} {base : Nat} {a : List Nat} (h : Own wE e base w (.slice A n c) a) (hn : n = a.length) (hl : n ≤ 1000) (hf : Fit a) : SOk w ((A, n, c), a) := ⟨rdO h, hn, hl, hf⟩
end Go.Proofs.YtkiklbngfocljaaDoor
