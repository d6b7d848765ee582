/- Plainly: heaps in lists; what is taken of a graph; right orders; depths. -/
import Derived.Test.YtepgpiolhiidiaaBase
namespace Go.Proofs.Ytepgpiolhiidiaa
/-! Plainly: a heap of integers in a list. -/
def gi (L : List Int) (i : Nat) : Int := L.getD i 0
theorem gi_some {L : List Int} {i : Nat} {x : Int} (h : L[i]? = some x) : gi L i = x := by unfold gi; rw [List.getD_eq_getElem?_getD, h]; rfl
theorem gi_get {L : List Int} {i : Nat} (h : i < L.length) : L[i]? = some (gi L i) := by
  unfold gi
  rw [List.getD_eq_getElem?_getD, List.getElem?_eq_getElem h]
  rfl
theorem gi_set {L : List Int} {i j : Nat} {x : Int} (h : i < L.length) : gi (L.set i x) j = if j = i then x else gi L j := by
  unfold gi
  rw [List.getD_eq_getElem?_getD, List.getD_eq_getElem?_getD, List.getElem?_set]
  by_cases hij : i = j
  · subst hij
    rw [if_pos rfl, if_pos rfl, if_pos h]
    rfl
  · rw [if_neg hij, if_neg (fun e => hij e.symm)]
theorem gi_app {L : List Int} {n : Int} {j : Nat} : gi (L ++ [n]) j = if j < L.length then gi L j else if j = L.length then n else 0 := by
  unfold gi
  rw [List.getD_eq_getElem?_getD, List.getD_eq_getElem?_getD, List.getElem?_append]
  by_cases h : j < L.length
  · rw [if_pos h, if_pos h]
  · rw [if_neg h, if_neg h]
    by_cases h2 : j = L.length
    · rw [if_pos h2, h2, Nat.sub_self]; rfl
    · rw [if_neg h2, List.getElem?_eq_none (by simp; omega)]; rfl
def swp (L : List Int) (i j : Nat) : List Int := (L.set i (gi L j)).set j (gi L i)
theorem swp_len (L : List Int) (i j : Nat) : (swp L i j).length = L.length := by unfold swp; simp
theorem gi_swp {L : List Int} {i j k : Nat} (hi : i < L.length) (hj : j < L.length) : gi (swp L i j) k = if k = j then gi L i else if k = i then gi L j else gi L k := by
  unfold swp
  rw [gi_set (by simpa using hj), gi_set hi]
/-- the same numbers, as often -/
def Same (L M : List Int) : Prop := ∀ x, L.count x = M.count x
theorem Same.refl (L : List Int) : Same L L := fun _ => rfl
theorem Same.trans {L M N : List Int} (h : Same L M) (k : Same M N) : Same L N := fun x => (h x).trans (k x)
theorem Same.symm {L M : List Int} (h : Same L M) : Same M L := fun x => (h x).symm
theorem swp_same {L : List Int} {i j : Nat} (hi : i < L.length) (hj : j < L.length) : Same (swp L i j) L := by
  intro x
  unfold swp
  by_cases hij : i = j
  · subst hij
    have e : (L.set i (gi L i)).set i (gi L i) = L := by
      refine List.ext_getElem? fun k => ?_
      rw [List.getElem?_set, List.getElem?_set]
      by_cases hk : i = k
      · subst hk
        rw [if_pos rfl, if_pos (by simpa using hi), gi_get hi]
      · rw [if_neg hk, if_neg hk]
    rw [e]
  · rw [List.count_set (by simpa using hj), List.count_set hi]
    have e1 : (L.set i (gi L j))[j]'(by simpa using hj) = L[j] := by rw [List.getElem_set, if_neg hij]
    rw [e1]
    have e2 : gi L j = L[j] := Option.some.inj ((gi_get hj).symm.trans (List.getElem?_eq_getElem hj))
    have e3 : gi L i = L[i] := Option.some.inj ((gi_get hi).symm.trans (List.getElem?_eq_getElem hi))
    rw [e2, e3]
    have c1 : L[i] == x → 0 < L.count x := fun h => by
      rw [List.count_pos_iff]
      have : L[i] = x := by simpa using h
      rw [← this]; exact List.getElem_mem _
    split <;> split <;> simp_all <;> omega
/-! ### The heap -/
def Heap (L : List Int) : Prop := ∀ j, 0 < j → j < L.length → gi L ((j - 1) / 2) ≤ gi L j
/-- all but at i, where a number may rise -/
def HeapU (i : Nat) (L : List Int) : Prop := (∀ j, 0 < j → j < L.length → j ≠ i → gi L ((j - 1) / 2) ≤ gi L j) ∧ ∀ j, 0 < j → j < L.length → (j - 1) / 2 = i → 0 < i → gi L ((i - 1) / 2) ≤ gi L j
/-- all but below i, where a number may sink -/
def HeapD (i : Nat) (L : List Int) : Prop := (∀ j, 0 < j → j < L.length → (j - 1) / 2 ≠ i → gi L ((j - 1) / 2) ≤ gi L j) ∧ ∀ j, 0 < j → j < L.length → (j - 1) / 2 = i → 0 < i → gi L ((i - 1) / 2) ≤ gi L j
theorem heap_nil : Heap [] := fun j _ h => by simp at h
theorem heap_min {L : List Int} (h : Heap L) : ∀ j, j < L.length → gi L 0 ≤ gi L j := by
  intro j
  induction j using Nat.strongRecOn with
  | ind j ih =>
    intro hj
    by_cases h0 : j = 0
    · rw [h0]; exact Int.le_refl _
    · exact Int.le_trans (ih ((j - 1) / 2) (by omega) (by omega)) (h j (by omega) hj)
theorem heap_put {L : List Int} {n : Int} (h : Heap L) : HeapU L.length (L ++ [n]) := by
  constructor
  · intro j h0 hj hne
    simp at hj
    rw [gi_app, gi_app, if_pos (by omega), if_pos (by omega)]
    exact h j h0 (by omega)
  · intro j h0 hj he _
    simp at hj
    omega
theorem heapU_end {i : Nat} {L : List Int} (h : HeapU i L) (he : i = 0 ∨ gi L ((i - 1) / 2) ≤ gi L i) : Heap L := by
  intro j h0 hj
  by_cases hji : j = i
  · subst hji
    rcases he with he | he
    · omega
    · exact he
  · exact h.1 j h0 hj hji
theorem heapU_step {i : Nat} {L : List Int} (h : HeapU i L) (h0 : 0 < i) (hi : i < L.length) (hlt : gi L i < gi L ((i - 1) / 2)) : HeapU ((i - 1) / 2) (swp L ((i - 1) / 2) i) := by
  have hu : (i - 1) / 2 < L.length := by omega
  constructor
  · intro j hj0 hj hne
    rw [swp_len] at hj
    rw [gi_swp hu hi, gi_swp hu hi]
    by_cases hji : j = i
    · subst hji
      rw [if_neg (by omega), if_pos rfl, if_pos rfl]
      omega
    · rw [if_neg hji, if_neg hne]
      by_cases hp : (j - 1) / 2 = i
      · rw [if_pos hp]
        exact h.2 j hj0 hj hp h0
      · rw [if_neg hp]
        by_cases hp2 : (j - 1) / 2 = (i - 1) / 2
        · rw [if_pos hp2]
          have := h.1 j hj0 hj hji
          rw [hp2] at this
          omega
        · rw [if_neg hp2]
          exact h.1 j hj0 hj hji
  · intro j hj0 hj hp hu0
    rw [swp_len] at hj
    rw [gi_swp hu hi, gi_swp hu hi, if_neg (by omega), if_neg (by omega)]
    by_cases hji : j = i
    · subst hji
      rw [if_pos rfl]
      exact h.1 _ hu0 hu (by omega)
    · rw [if_neg hji, if_neg (by omega)]
      have h1 := h.1 j hj0 hj hji
      rw [hp] at h1
      exact Int.le_trans (h.1 _ hu0 hu (by omega)) h1
theorem heapD_end {i : Nat} {L : List Int} (h : HeapD i L) (he : ∀ j, 0 < j → j < L.length → (j - 1) / 2 = i → gi L i ≤ gi L j) : Heap L := by
  intro j h0 hj
  by_cases hp : (j - 1) / 2 = i
  · rw [hp]; exact he j h0 hj hp
  · exact h.1 j h0 hj hp
theorem heapD_step {i k : Nat} {L : List Int} (h : HeapD i L) (hi : i < L.length) (hk : k < L.length) (hk0 : 0 < k) (hp : (k - 1) / 2 = i) (hlt : gi L k < gi L i) (hmin : ∀ j, 0 < j → j < L.length → (j - 1) / 2 = i → gi L k ≤ gi L j) : HeapD k (swp L i k) := by
  constructor
  · intro j hj0 hj hne
    rw [swp_len] at hj
    rw [gi_swp hi hk, gi_swp hi hk, if_neg hne]
    by_cases hji : (j - 1) / 2 = i
    · rw [if_pos hji]
      by_cases hjk : j = k
      · rw [if_pos hjk]; omega
      · rw [if_neg hjk, if_neg (by omega)]
        exact hmin j hj0 hj hji
    · rw [if_neg hji, if_neg (by intro e; subst e; exact hji hp)]
      by_cases hje : j = i
      · subst hje
        rw [if_pos rfl]
        exact h.2 k hk0 hk hp hj0
      · rw [if_neg hje]
        exact h.1 j hj0 hj hji
  · intro j hj0 hj hpk _
    rw [swp_len] at hj
    rw [gi_swp hi hk, gi_swp hi hk, hp, if_neg (by omega), if_pos rfl, if_neg (by omega), if_neg (by omega)]
    have := h.1 j hj0 hj (by omega)
    rw [hpk] at this
    exact this
/-- the last number in the first place, the last place away -/
theorem heap_take {L : List Int} (h : Heap L) (hl : 0 < L.length) : HeapD 0 ((L.set 0 (gi L (L.length - 1))).take (L.length - 1)) := by
  have hg : ∀ j, 0 < j → j < L.length - 1 → gi ((L.set 0 (gi L (L.length - 1))).take (L.length - 1)) j = gi L j := fun j h0 hj => by
    have : ((L.set 0 (gi L (L.length - 1))).take (L.length - 1))[j]? = some (gi L j) := by
      rw [List.getElem?_take, if_pos hj, List.getElem?_set, if_neg (by omega), gi_get (by omega)]
    exact gi_some this
  constructor
  · intro j h0 hj hne
    rw [List.length_take, List.length_set] at hj
    rw [hg j h0 (by omega), hg _ (by omega) (by omega)]
    exact h j h0 (by omega)
  · intro j _ _ _ h0
    omega
/-! Plainly: what is taken of a graph, one by one; the heap's row taken from. -/
theorem take_same {L : List Int} (hl : 0 < L.length) : ∀ x, ((L.set 0 (gi L (L.length - 1))).take (L.length - 1)).count x + (if gi L 0 = x then 1 else 0) = L.count x := by
  intro x
  have h1 : (L.set 0 (gi L (L.length - 1))).count x = ((L.set 0 (gi L (L.length - 1))).take (L.length - 1)).count x + (if gi L (L.length - 1) = x then 1 else 0) := by
    have hs : (L.set 0 (gi L (L.length - 1)))[L.length - 1]? = some (gi L (L.length - 1)) := by
      rw [List.getElem?_set]
      by_cases h0 : 0 = L.length - 1
      · rw [if_pos h0, if_pos hl]
      · rw [if_neg h0, gi_get (by omega)]
    have e : L.set 0 (gi L (L.length - 1)) = (L.set 0 (gi L (L.length - 1))).take (L.length - 1) ++ [gi L (L.length - 1)] := by
      have := List.take_append_drop (L.length - 1) (L.set 0 (gi L (L.length - 1)))
      rw [← this]
      congr 1
      · rw [List.take_append_drop]
      · refine List.ext_getElem? fun k => ?_
        rw [List.getElem?_drop]
        match k with
        | 0 => rw [Nat.add_zero, hs]; rfl
        | k + 1 => rw [List.getElem?_eq_none (by simp; omega)]; rfl
    have := congrArg (List.count x) e
    rw [List.count_append, List.count_singleton] at this
    simpa using this
  have h2 := List.count_set (a := gi L (L.length - 1)) (b := x) hl
  have e3 : gi L 0 = L[0] := Option.some.inj ((gi_get hl).symm.trans (List.getElem?_eq_getElem hl))
  have c1 : L[0] = x → 0 < L.count x := fun h => by
    rw [List.count_pos_iff, ← h]; exact List.getElem_mem _
  rw [e3]
  rw [h1] at h2
  simp only [beq_iff_eq] at h2
  by_cases a : L[0] = x
  · have := c1 a
    rw [if_pos a]
    rw [if_pos a] at h2
    by_cases b : gi L (L.length - 1) = x
    · rw [if_pos b] at h2; omega
    · rw [if_neg b] at h2; omega
  · rw [if_neg a]
    rw [if_neg a] at h2
    by_cases b : gi L (L.length - 1) = x
    · rw [if_pos b] at h2; omega
    · rw [if_neg b] at h2; omega
/-! ### What is taken -/
def freeV (xs : List (Int × Int × Int)) (T : List Int) (v : Int) : Bool := !decide (v ∈ T) && xs.all fun e => decide (e.2.1 = v → e.1 ∈ T)
theorem freeV_iff {xs : List (Int × Int × Int)} {T : List Int} {v : Int} : freeV xs T v = true ↔ v ∉ T ∧ ∀ e ∈ xs, e.2.1 = v → e.1 ∈ T := by
  unfold freeV
  rw [Bool.and_eq_true, List.all_eq_true]
  simp only [Bool.not_eq_true', decide_eq_false_iff_not, decide_eq_true_eq]
def nodes (n : Nat) : List Int := (List.range n).map fun i : Nat => (i : Int)
theorem mem_nodes {n : Nat} {v : Int} : v ∈ nodes n ↔ 0 ≤ v ∧ v < n := by
  unfold nodes
  rw [List.mem_map]
  constructor
  · rintro ⟨i, hi, rfl⟩
    rw [List.mem_range] at hi
    omega
  · rintro ⟨h1, h2⟩
    exact ⟨v.toNat, by rw [List.mem_range]; omega, by omega⟩
def nextN (n : Nat) (xs : List (Int × Int × Int)) (T : List Int) : Option Int := (nodes n).find? (freeV xs T)
def itN (n : Nat) (xs : List (Int × Int × Int)) : Nat → List Int
  | 0 => []
  | k + 1 => match nextN n xs (itN n xs k) with | none => itN n xs k | some v => itN n xs k ++ [v]
def ordN (n : Nat) (xs : List (Int × Int × Int)) : List Int := itN n xs n
section
variable {n : Nat} {xs : List (Int × Int × Int)}
theorem next_some {T : List Int} {v : Int} (h : nextN n xs T = some v) : (0 ≤ v ∧ v < n) ∧ freeV xs T v = true := ⟨mem_nodes.1 (List.mem_of_find?_eq_some h), List.find?_some h⟩
theorem next_none {T : List Int} (h : nextN n xs T = none) {v : Int} (hv : 0 ≤ v ∧ v < n) : freeV xs T v = false := by
  have := List.find?_eq_none.1 h v (mem_nodes.2 hv)
  simpa using this
theorem it_some {k : Nat} {v : Int} (h : nextN n xs (itN n xs k) = some v) : itN n xs (k + 1) = itN n xs k ++ [v] := by
  show (match nextN n xs (itN n xs k) with | none => itN n xs k | some v => itN n xs k ++ [v]) = _
  rw [h]
theorem it_none {k : Nat} (h : nextN n xs (itN n xs k) = none) : itN n xs (k + 1) = itN n xs k := by
  show (match nextN n xs (itN n xs k) with | none => itN n xs k | some v => itN n xs k ++ [v]) = _
  rw [h]
theorem it_stay {k : Nat} (h : nextN n xs (itN n xs k) = none) : ∀ j, itN n xs (k + j) = itN n xs k := by
  intro j
  induction j with
  | zero => rfl
  | succ j ih =>
    have : nextN n xs (itN n xs (k + j)) = none := by rw [ih]; exact h
    rw [show k + (j + 1) = (k + j) + 1 from rfl, it_none this, ih]
theorem it_nodup (k : Nat) : (itN n xs k).Nodup ∧ ∀ v ∈ itN n xs k, 0 ≤ v ∧ v < n := by
  induction k with
  | zero => exact ⟨List.nodup_nil, fun v h => by cases h⟩
  | succ k ih =>
    cases h : nextN n xs (itN n xs k) with
    | none => rw [it_none h]; exact ih
    | some v =>
      rw [it_some h]
      obtain ⟨h1, h2⟩ := next_some h
      refine ⟨?_, fun u hu => ?_⟩
      · rw [List.nodup_append]
        refine ⟨ih.1, List.nodup_cons.2 ⟨by simp, List.nodup_nil⟩, fun a ha b hb => ?_⟩
        simp only [List.mem_singleton] at hb
        subst hb
        exact fun e => (freeV_iff.1 h2).1 (e ▸ ha)
      · rw [List.mem_append, List.mem_singleton] at hu
        rcases hu with hu | rfl
        · exact ih.2 u hu
        · exact h1
end
/-! Plainly: what is taken of a graph: its end; orders that are right. -/
theorem nodup_len : ∀ {l m : List Int}, l.Nodup → (∀ x ∈ l, x ∈ m) → l.length ≤ m.length
  | [], _, _, _ => Nat.zero_le _
  | a :: l, m, h, hs => by
    obtain ⟨h1, h2⟩ := List.nodup_cons.1 h
    have ha := hs a (by simp)
    have := nodup_len (l := l) (m := m.erase a) h2 fun x hx => by
      rw [List.mem_erase_of_ne (by rintro rfl; exact h1 hx)]
      exact hs x (by simp [hx])
    rw [List.length_erase_of_mem ha] at this
    have hp := List.length_pos_of_mem ha
    simp only [List.length_cons]
    omega
theorem nodes_len (n : Nat) : (nodes n).length = n := by unfold nodes; simp
theorem nodup_full {n : Nat} {l : List Int} (h : l.Nodup) (hs : ∀ x ∈ l, 0 ≤ x ∧ x < n) (hn : n ≤ l.length) {v : Int} (hv : 0 ≤ v ∧ v < n) : v ∈ l := by
  by_cases hm : v ∈ l
  · exact hm
  · have := nodup_len (l := v :: l) (m := nodes n) (List.nodup_cons.2 ⟨hm, h⟩) (fun x hx => by
      rw [mem_nodes]
      rcases List.mem_cons.1 hx with rfl | hx
      · exact hv
      · exact hs x hx)
    rw [nodes_len] at this
    simp at this
    omega
section
variable {n : Nat} {xs : List (Int × Int × Int)}
theorem it_le (k : Nat) : (itN n xs k).length ≤ n := by
  have := nodup_len (it_nodup (n := n) (xs := xs) k).1 (m := nodes n) fun x hx => mem_nodes.2 ((it_nodup k).2 x hx)
  rw [nodes_len] at this
  exact this
theorem it_len (k : Nat) : (itN n xs k).length = k ∨ nextN n xs (itN n xs k) = none := by
  induction k with
  | zero => exact .inl rfl
  | succ k ih =>
    cases h : nextN n xs (itN n xs k) with
    | none => right; rw [it_none h]; exact h
    | some v =>
      rw [it_some h]
      rcases ih with ih | ih
      · left; simp [ih]
      · rw [h] at ih; cases ih
theorem ord_end : nextN n xs (ordN n xs) = none := by
  rcases it_len (n := n) (xs := xs) n with h | h
  · cases h2 : nextN n xs (ordN n xs) with
    | none => rfl
    | some v =>
      obtain ⟨h3, h4⟩ := next_some h2
      exact absurd (nodup_full (it_nodup n).1 (it_nodup n).2 (by rw [h]; exact Nat.le_refl _) h3) (freeV_iff.1 h4).1
  · exact h
theorem ord_of {k : Nat} (h : nextN n xs (itN n xs k) = none) (hk : k ≤ n) : itN n xs k = ordN n xs := by
  have := it_stay h (n - k)
  rw [show k + (n - k) = n by omega] at this
  exact this.symm
theorem ord_nodup : (ordN n xs).Nodup ∧ ∀ v ∈ ordN n xs, 0 ≤ v ∧ v < n := it_nodup n
theorem ord_le : (ordN n xs).length ≤ n := it_le n
/-- a row is an order, and right -/
def RightO (n : Nat) (xs : List (Int × Int × Int)) (l : List Int) : Prop := (l.length = n ∧ l.Nodup ∧ ∀ v ∈ l, 0 ≤ v ∧ v < n) ∧ ∀ e ∈ xs, ∃ p q r, l = p ++ e.1 :: q ++ e.2.1 :: r
/-- what is taken ahead of a node that is taken -/
theorem it_before : ∀ k, ∀ v ∈ itN n xs k, ∃ p q, itN n xs k = p ++ v :: q ∧ ∀ e ∈ xs, e.2.1 = v → e.1 ∈ p := by
  intro k
  induction k with
  | zero => intro v hv; cases hv
  | succ k ih =>
    cases h : nextN n xs (itN n xs k) with
    | none => rw [it_none h]; exact ih
    | some u =>
      rw [it_some h]
      intro v hv
      rw [List.mem_append, List.mem_singleton] at hv
      rcases hv with hv | rfl
      · obtain ⟨p, q, h1, h2⟩ := ih v hv
        exact ⟨p, q ++ [u], by rw [h1]; simp, h2⟩
      · exact ⟨itN n xs k, [], rfl, fun e he hev => (freeV_iff.1 (next_some h).2).2 e he hev⟩
theorem ord_right (hx : ∀ e ∈ xs, (0 ≤ e.1 ∧ e.1 < n) ∧ 0 ≤ e.2.1 ∧ e.2.1 < n) (hl : (ordN n xs).length = n) : RightO n xs (ordN n xs) := by
  refine ⟨⟨hl, ord_nodup.1, ord_nodup.2⟩, fun e he => ?_⟩
  obtain ⟨p, q, h1, h2⟩ := it_before n e.2.1 (nodup_full ord_nodup.1 ord_nodup.2 (by rw [hl]; exact Nat.le_refl _) (hx e he).2)
  obtain ⟨a, b, hab⟩ := List.append_of_mem (h2 e he rfl)
  exact ⟨a, b, q, by show itN n xs n = _; rw [h1, hab]⟩
end
/-! Plainly: no right order is less than the least; if not all is taken, none is right. -/
def lexLe : List Int → List Int → Bool
  | [], _ => true
  | _ :: _, [] => false
  | a :: l, b :: m => decide (a < b) || (decide (a = b) && lexLe l m)
section
variable {n : Nat} {xs : List (Int × Int × Int)}
theorem append_uniq {p q p' q' : List Int} {u : Int} (h : p ++ u :: q = p' ++ u :: q') (hp : u ∉ p) (hp' : u ∉ p') : p = p' := by
  induction p generalizing p' with
  | nil =>
    cases p' with
    | nil => rfl
    | cons a p' =>
      simp at h
      exact absurd (by simp [h.1]) hp'
  | cons a p ih =>
    cases p' with
    | nil =>
      simp at h
      exact absurd (by simp [h.1]) hp
    | cons b p' =>
      simp at h
      obtain ⟨rfl, h⟩ := h
      rw [ih h (fun hm => hp (by simp [hm])) (fun hm => hp' (by simp [hm]))]
theorem right_free {p q : List Int} {u : Int} (h : RightO n xs (p ++ u :: q)) : freeV xs p u = true := by
  obtain ⟨⟨-, hnd, -⟩, hr⟩ := h
  have hup : u ∉ p := fun hm => by
    rw [List.nodup_append] at hnd
    exact hnd.2.2 u hm u (by simp) rfl
  refine freeV_iff.2 ⟨hup, fun e he heu => ?_⟩
  obtain ⟨a, b, c, hl⟩ := hr e he
  rw [heu] at hl
  have h2 : u ∉ a ++ e.1 :: b := fun hm => by
    rw [hl, List.nodup_append] at hnd
    exact hnd.2.2 u hm u (by simp) rfl
  have := append_uniq (p' := a ++ e.1 :: b) (q' := c) (by rw [hl]) hup h2
  rw [this]
  simp
theorem next_least {T : List Int} {v : Int} (h : nextN n xs T = some v) {u : Int} (hu : 0 ≤ u ∧ u < n) (hf : freeV xs T u = true) : v ≤ u := by
  unfold nextN nodes at h
  rw [List.find?_map] at h
  cases h2 : (List.range n).find? (freeV xs T ∘ fun i : Nat => (i : Int)) with
  | none => rw [h2] at h; cases h
  | some i =>
    rw [h2] at h
    simp at h
    subst h
    have h3 := (List.find?_range_eq_some (n := n) (i := i)).1 h2
    by_cases hlt : u < (i : Int)
    · have := h3.2.2 u.toNat (by omega)
      simp only [Function.comp] at this
      rw [show ((u.toNat : Nat) : Int) = u by omega, hf] at this
      cases this
    · omega
theorem next_any {T : List Int} {u : Int} (hu : 0 ≤ u ∧ u < n) (hf : freeV xs T u = true) : ∃ v, nextN n xs T = some v := by
  cases h : nextN n xs T with
  | some v => exact ⟨v, rfl⟩
  | none => rw [next_none h hu] at hf; cases hf
theorem first_out (T : List Int) : ∀ l : List Int, (∀ x ∈ l, x ∈ T) ∨ ∃ p u q, l = p ++ u :: q ∧ (∀ x ∈ p, x ∈ T) ∧ u ∉ T
  | [] => .inl fun x h => by cases h
  | a :: l => by
    by_cases ha : a ∈ T
    · rcases first_out T l with h | ⟨p, u, q, h1, h2, h3⟩
      · refine .inl fun x hx => ?_
        rcases List.mem_cons.1 hx with rfl | hx
        · exact ha
        · exact h x hx
      · refine .inr ⟨a :: p, u, q, by rw [h1]; rfl, fun x hx => ?_, h3⟩
        rcases List.mem_cons.1 hx with rfl | hx
        · exact ha
        · exact h2 x hx
    · exact .inr ⟨[], a, l, rfl, (fun x h => absurd h (by simp)), ha⟩
/-- where an order is right all is taken -/
theorem right_all {l : List Int} (hR : RightO n xs l) : (ordN n xs).length = n := by
  have hall : ∀ x ∈ l, x ∈ ordN n xs := by
    rcases first_out (ordN n xs) l with h | ⟨p, u, q, h1, h2, h3⟩
    · exact h
    · exfalso
      have hR2 := hR
      rw [h1] at hR2
      have hf := (freeV_iff.1 (right_free hR2)).2
      have hu : 0 ≤ u ∧ u < n := hR.1.2.2 u (by rw [h1]; simp)
      obtain ⟨v, hv⟩ := next_any hu (freeV_iff.2 ⟨h3, fun e he heu => h2 _ (hf e he heu)⟩)
      rw [ord_end] at hv
      cases hv
  have h1 := nodup_len hR.1.2.1 hall
  have h2 := ord_le (n := n) (xs := xs)
  have h3 := hR.1.1
  omega
theorem it_prefix (k : Nat) : ∀ j, ∃ r, itN n xs (k + j) = itN n xs k ++ r
  | 0 => ⟨[], by simp⟩
  | j + 1 => by
    obtain ⟨r, h⟩ := it_prefix k j
    cases h2 : nextN n xs (itN n xs (k + j)) with
    | none => exact ⟨r, by rw [show k + (j + 1) = (k + j) + 1 from rfl, it_none h2, h]⟩
    | some v => exact ⟨r ++ [v], by rw [show k + (j + 1) = (k + j) + 1 from rfl, it_some h2, h, List.append_assoc]⟩
/-- an order that is right: from where it agrees with what is taken the rest is no less -/
theorem least_from {l : List Int} (hR : RightO n xs l) : ∀ d k, k + d = n → l.take k = itN n xs k → lexLe ((ordN n xs).drop k) (l.drop k) = true := by
  have hln : l.length = n := hR.1.1
  intro d
  induction d with
  | zero =>
    intro k hk hp
    have hkn : k = n := by omega
    have := ord_le (n := n) (xs := xs)
    rw [List.drop_of_length_le (by omega)]
    rfl
  | succ d ih =>
    intro k hk hp
    have hkl : k < l.length := by omega
    have hdc : l.drop k = l[k] :: l.drop (k + 1) := List.drop_eq_getElem_cons hkl
    have hsp : l = l.take k ++ l[k] :: l.drop (k + 1) := by rw [← hdc, List.take_append_drop]
    have hf : freeV xs (itN n xs k) l[k] = true := by
      rw [← hp]
      refine right_free (n := n) (q := l.drop (k + 1)) ?_
      rw [← hsp]; exact hR
    have hu : 0 ≤ l[k] ∧ l[k] < n := hR.1.2.2 _ (List.getElem_mem _)
    obtain ⟨v, hv⟩ := next_any hu hf
    have hle := next_least hv hu hf
    have hlen : (itN n xs k).length = k := by rw [← hp, List.length_take]; omega
    obtain ⟨r, hr⟩ := it_prefix (n := n) (xs := xs) (k + 1) d
    rw [show k + 1 + d = n by omega, it_some hv] at hr
    have ho : (ordN n xs).drop k = v :: (ordN n xs).drop (k + 1) := by
      show (itN n xs n).drop k = v :: (itN n xs n).drop (k + 1)
      rw [hr, List.append_assoc]
      show (itN n xs k ++ v :: r).drop k = v :: (itN n xs k ++ v :: r).drop (k + 1)
      have e1 : (itN n xs k ++ v :: r).drop k = v :: r := by
        rw [List.drop_append_of_le_length (by omega), List.drop_of_length_le (by omega)]
        rfl
      have e2 : (itN n xs k ++ v :: r).drop (k + 1) = r := by
        rw [List.drop_append, List.drop_of_length_le (by omega), show k + 1 - (itN n xs k).length = 1 by omega]
        rfl
      rw [e1, e2]
    rw [ho, hdc]
    unfold lexLe
    by_cases hvl : v < l[k]
    · rw [decide_eq_true hvl, Bool.true_or]
    · have he : v = l[k] := by omega
      rw [decide_eq_true he, Bool.true_and, ih (k + 1) (by omega) ?_, Bool.or_true]
      rw [it_some hv, ← hp, he, List.take_succ_eq_append_getElem hkl]
theorem ord_least {l : List Int} (hR : RightO n xs l) : lexLe (ordN n xs) l = true := least_from hR n 0 (by omega) rfl
end
/-! Plainly: how deep nodes are. -/
def relax (d : Int → Int) (e : Int × Int × Int) : Int → Int := fun u => if u = e.2.1 then (if d u < d e.1 + 1 then d e.1 + 1 else d u) else d u
def DeepOf (n : Nat) (xs : List (Int × Int × Int)) (d : Int → Int) : Prop := (∀ e ∈ xs, d e.1 + 1 ≤ d e.2.1) ∧ ∀ v : Int, 0 ≤ v → v < n → d v = 0 ∨ ∃ e ∈ xs, e.2.1 = v ∧ d v = d e.1 + 1
section
variable {n : Nat} {xs : List (Int × Int × Int)}
theorem relax_le (d : Int → Int) (e : Int × Int × Int) (u : Int) : d u ≤ relax d e u := by
  unfold relax; split
  · split <;> omega
  · omega
theorem relax_to (d : Int → Int) (e : Int × Int × Int) : d e.1 + 1 ≤ relax d e e.2.1 := by
  unfold relax; rw [if_pos rfl]; split <;> omega
theorem relax_far {d : Int → Int} {e : Int × Int × Int} {u : Int} (h : u ≠ e.2.1) : relax d e u = d u := if_neg h
theorem fold_le : ∀ (es : List (Int × Int × Int)) (d : Int → Int) (u : Int), d u ≤ es.foldl relax d u
  | [], _, _ => Int.le_refl _
  | e :: es, d, u => Int.le_trans (relax_le d e u) (fold_le es (relax d e) u)
theorem fold_to : ∀ (es : List (Int × Int × Int)) (d : Int → Int) (e : Int × Int × Int), e ∈ es → d e.1 + 1 ≤ es.foldl relax d e.2.1
  | a :: es, d, e, h => by
    rcases List.mem_cons.1 h with rfl | h
    · exact Int.le_trans (relax_to d e) (fold_le es _ _)
    · have h1 := fold_to es (relax d a) e h
      have h2 := relax_le d a e.1
      exact Int.le_trans (by omega) h1
theorem fold_up {D : Int → Int} : ∀ (es : List (Int × Int × Int)) (d : Int → Int), (∀ e ∈ es, D e.1 + 1 ≤ D e.2.1) → (∀ u, d u ≤ D u) → ∀ u, es.foldl relax d u ≤ D u
  | [], _, _, h, u => h u
  | e :: es, d, hD, h, u => by
    refine fold_up es (relax d e) (fun x hx => hD x (by simp [hx])) (fun v => ?_) u
    unfold relax
    have h1 := hD e (by simp)
    have h2 := h e.1
    split
    · rename_i hv
      subst hv
      split
      · omega
      · exact h _
    · exact h v
/-- the rounds of the document -/
def rounds (xs : List (Int × Int × Int)) : Nat → (Int → Int)
  | 0 => fun _ => 0
  | k + 1 => xs.foldl relax (rounds xs k)
theorem rounds_up {D : Int → Int} (hD : ∀ e ∈ xs, D e.1 + 1 ≤ D e.2.1) (h0 : ∀ u, 0 ≤ D u) : ∀ k u, rounds xs k u ≤ D u
  | 0, u => h0 u
  | k + 1, u => fold_up xs (rounds xs k) hD (rounds_up hD h0 k) u
theorem rounds_reach {D : Int → Int} (hD : DeepOf n xs D) (h0 : ∀ u, 0 ≤ D u) (hx : ∀ e ∈ xs, (0 ≤ e.1 ∧ e.1 < n) ∧ 0 ≤ e.2.1 ∧ e.2.1 < n) : ∀ (k : Nat) (v : Int), 0 ≤ v → v < n → D v ≤ k → rounds xs k v = D v
  | 0, v, _, _, h => by
    have := h0 v
    show (0 : Int) = D v
    omega
  | k + 1, v, h1, h2, h => by
    have hup := rounds_up hD.1 h0 (k + 1) v
    have hmono : rounds xs k v ≤ rounds xs (k + 1) v := fold_le xs _ v
    by_cases hk : D v ≤ k
    · have := rounds_reach hD h0 hx k v h1 h2 hk
      omega
    · rcases hD.2 v h1 h2 with h3 | ⟨e, he, hev, h3⟩
      · omega
      · have h4 := rounds_reach hD h0 hx k e.1 (hx e he).1.1 (hx e he).1.2 (by omega)
        have h5 : rounds xs k e.1 + 1 ≤ rounds xs (k + 1) e.2.1 := fold_to xs (rounds xs k) e he
        rw [hev] at h5
        omega
/-- the invariant of going through the order: p are done, q are the edges of the node at hand that are done -/
def DInv (xs : List (Int × Int × Int)) (p : List Int) (q : List (Int × Int × Int)) (d : Int → Int) : Prop :=
  (∀ u, 0 ≤ d u ∧ (d u = 0 ∨ ∃ e ∈ xs, e.2.1 = u ∧ (e.1 ∈ p ∨ e ∈ q) ∧ d u = d e.1 + 1)) ∧ ∀ e ∈ xs, (e.1 ∈ p ∨ e ∈ q) → d e.1 + 1 ≤ d e.2.1
theorem dinv_nil : DInv xs [] [] (fun _ => 0) := ⟨fun u => ⟨Int.le_refl _, .inl rfl⟩, fun e _ h => by rcases h with h | h <;> cases h⟩
theorem dinv_step {p : List Int} {q : List (Int × Int × Int)} {d : Int → Int} {v : Int} (h : DInv xs p q d) (hq : ∀ e ∈ q, e.1 = v) {e0 : Int × Int × Int} (h0 : e0 ∈ xs) (hv : e0.1 = v) (hp : e0.2.1 ∉ p) (hne : e0.2.1 ≠ v) : DInv xs p (q ++ [e0]) (relax d e0) := by
  have keep : ∀ e, (e.1 ∈ p ∨ e ∈ q) → relax d e0 e.1 = d e.1 := fun e he => relax_far (fun heq => by
    rcases he with he | he
    · exact hp (heq ▸ he)
    · exact hne (by rw [← heq]; exact hq e he))
  have keep0 : relax d e0 e0.1 = d e0.1 := relax_far (by rw [hv]; exact Ne.symm hne)
  refine ⟨fun u => ?_, fun e he hpe => ?_⟩
  · obtain ⟨h1, h2⟩ := h.1 u
    refine ⟨Int.le_trans h1 (relax_le d e0 u), ?_⟩
    by_cases hu : u = e0.2.1 ∧ d u < d e0.1 + 1
    · refine .inr ⟨e0, h0, hu.1.symm, .inr (by simp), ?_⟩
      rw [keep0]
      unfold relax
      rw [if_pos hu.1, if_pos hu.2]
    · have hr : relax d e0 u = d u := by
        unfold relax
        split
        · rename_i hu1
          rw [if_neg (fun hlt => hu ⟨hu1, hlt⟩)]
        · rfl
      rw [hr]
      rcases h2 with h2 | ⟨e, he, heu, hpe, h2⟩
      · exact .inl h2
      · refine .inr ⟨e, he, heu, ?_, by rw [keep e hpe]; exact h2⟩
        rcases hpe with hpe | hpe
        · exact .inl hpe
        · exact .inr (by simp [hpe])
  · by_cases hee : e = e0
    · subst hee
      rw [keep0]
      exact relax_to d e
    · have hpe2 : e.1 ∈ p ∨ e ∈ q := by
        rcases hpe with hpe | hpe
        · exact .inl hpe
        · rw [List.mem_append, List.mem_singleton] at hpe
          rcases hpe with hpe | hpe
          · exact .inr hpe
          · exact absurd hpe hee
      rw [keep e hpe2]
      exact Int.le_trans (h.2 e he hpe2) (relax_le d e0 _)
/-- a node done -/
theorem dinv_next {p : List Int} {q : List (Int × Int × Int)} {d : Int → Int} {v : Int} (h : DInv xs p q d) (hq : ∀ e, e ∈ q ↔ e ∈ xs ∧ e.1 = v) : DInv xs (p ++ [v]) [] d := by
  have hiff : ∀ e ∈ xs, (e.1 ∈ p ++ [v] ∨ e ∈ ([] : List (Int × Int × Int))) ↔ (e.1 ∈ p ∨ e ∈ q) := fun e he => by
    rw [List.mem_append, List.mem_singleton, hq e]
    constructor
    · rintro ((h1 | h1) | h1)
      · exact .inl h1
      · exact .inr ⟨he, h1⟩
      · cases h1
    · rintro (h1 | h1)
      · exact .inl (.inl h1)
      · exact .inl (.inr h1.2)
  refine ⟨fun u => ⟨(h.1 u).1, ?_⟩, fun e he hpe => h.2 e he ((hiff e he).1 hpe)⟩
  rcases (h.1 u).2 with h2 | ⟨e, he, heu, hpe, h2⟩
  · exact .inl h2
  · exact .inr ⟨e, he, heu, (hiff e he).2 hpe, h2⟩
theorem dinv_deep {p : List Int} {d : Int → Int} (h : DInv xs p [] d) (hp : ∀ e ∈ xs, e.1 ∈ p) : DeepOf n xs d :=
  ⟨fun e he => h.2 e he (.inl (hp e he)), fun v _ _ => by
    rcases (h.1 v).2 with h2 | ⟨e, he, heu, _, h2⟩
    · exact .inl h2
    · exact .inr ⟨e, he, heu, h2⟩⟩
/-- how deep a node is, by its place -/
theorem deep_lt {d : Int → Int} (hd : DeepOf n xs d) : ∀ k, ∀ v ∈ itN n xs k, d v < (itN n xs k).length := by
  intro k
  induction k with
  | zero => intro v hv; cases hv
  | succ k ih =>
    cases h : nextN n xs (itN n xs k) with
    | none => rw [it_none h]; exact ih
    | some u =>
      rw [it_some h]
      intro v hv
      rw [List.length_append, List.length_singleton]
      rw [List.mem_append, List.mem_singleton] at hv
      obtain ⟨h1, h2⟩ := next_some h
      rcases hv with hv | rfl
      · have := ih v hv
        omega
      · rcases hd.2 v h1.1 h1.2 with h3 | ⟨e, he, hev, h3⟩
        · omega
        · have := ih e.1 ((freeV_iff.1 h2).2 e he hev)
          omega
theorem deep_uniq {d d' : Int → Int} (hd : DeepOf n xs d) (hd' : DeepOf n xs d') : ∀ k, ∀ v ∈ itN n xs k, 0 ≤ d v ∧ 0 ≤ d' v ∧ d v = d' v := by
  intro k
  induction k with
  | zero => intro v hv; cases hv
  | succ k ih =>
    cases h : nextN n xs (itN n xs k) with
    | none => rw [it_none h]; exact ih
    | some u =>
      rw [it_some h]
      intro v hv
      rw [List.mem_append, List.mem_singleton] at hv
      obtain ⟨h1, h2⟩ := next_some h
      rcases hv with hv | rfl
      · exact ih v hv
      · have hf := (freeV_iff.1 h2).2
        rcases hd.2 v h1.1 h1.2 with h3 | ⟨e, he, hev, h3⟩ <;> rcases hd'.2 v h1.1 h1.2 with h4 | ⟨e', he', hev', h4⟩
        · omega
        · have a1 := ih e'.1 (hf e' he' hev')
          have a2 := hd.1 e' he'
          rw [hev'] at a2
          omega
        · have a1 := ih e.1 (hf e he hev)
          have a2 := hd'.1 e he
          rw [hev] at a2
          omega
        · have a1 := ih e'.1 (hf e' he' hev')
          have a2 := hd.1 e' he'
          have a3 := ih e.1 (hf e he hev)
          have a4 := hd'.1 e he
          rw [hev'] at a2
          rw [hev] at a4
          omega
end
/-! Plainly: orders that are right, as the document scans them and as places tell. -/
/-- the document's scan of a row for an edge from a to b; whether a has been met -/
def scan (a b : Int) : Bool → List Int → Bool
  | _, [] => true
  | h, x :: l => if x = b ∧ h = false then false else scan a b (h || decide (x = a)) l
theorem scan_met (a b : Int) : ∀ l, scan a b true l = true
  | [] => rfl
  | x :: l => by
    unfold scan
    rw [if_neg (by simp), Bool.true_or]
    exact scan_met a b l
theorem scan_iff {a b : Int} (hab : a ≠ b) : ∀ {l : List Int}, a ∈ l → b ∈ l → (scan a b false l = true ↔ ∃ p q r, l = p ++ a :: q ++ b :: r ∧ b ∉ p)
  | [], h, _ => by cases h
  | x :: l, ha, hb => by
    unfold scan
    by_cases hxb : x = b
    · rw [if_pos ⟨hxb, rfl⟩]
      refine ⟨(fun h => absurd h (by decide)), ?_⟩
      rintro ⟨p, q, r, h1, h2⟩
      cases p with
      | nil =>
        simp at h1
        exact absurd (h1.1.symm.trans hxb) hab
      | cons y p =>
        simp at h1
        exact absurd (by simp [← h1.1, hxb]) h2
    · rw [if_neg (fun h => hxb h.1), Bool.false_or]
      have hbl : b ∈ l := by
        rcases List.mem_cons.1 hb with h | h
        · exact absurd h.symm hxb
        · exact h
      by_cases hxa : x = a
      · rw [decide_eq_true hxa, scan_met]
        refine ⟨fun _ => ?_, fun _ => rfl⟩
        obtain ⟨s, t, hs⟩ := List.append_of_mem hbl
        exact ⟨[], s, t, by rw [hs, hxa]; rfl, by simp⟩
      · rw [decide_eq_false hxa]
        have hal : a ∈ l := by
          rcases List.mem_cons.1 ha with h | h
          · exact absurd h.symm hxa
          · exact h
        rw [scan_iff hab hal hbl]
        constructor
        · rintro ⟨p, q, r, h1, h2⟩
          refine ⟨x :: p, q, r, by rw [h1]; rfl, fun h => ?_⟩
          rcases List.mem_cons.1 h with h | h
          · exact hxb h.symm
          · exact h2 h
        · rintro ⟨p, q, r, h1, h2⟩
          cases p with
          | nil =>
            simp at h1
            exact absurd h1.1 hxa
          | cons y p =>
            simp at h1
            exact ⟨p, q, r, by rw [h1.2]; simp, fun h => h2 (by simp [h])⟩
/-- the place of a number in a row; the row's length if it is not in it -/
def plc (l : List Int) (v : Int) : Nat := l.findIdx (fun x => decide (x = v))
theorem plc_split {p q : List Int} {v : Int} (h : v ∉ p) : plc (p ++ v :: q) v = p.length := by
  induction p with
  | nil => unfold plc; rw [List.nil_append, List.findIdx_cons, decide_eq_true rfl]; rfl
  | cons y p ih =>
    unfold plc at ih ⊢
    rw [List.cons_append, List.findIdx_cons, decide_eq_false (fun e => h (by simp [e])), ih (fun hm => h (by simp [hm]))]
    rfl
theorem plc_iff {a b : Int} {l : List Int} (hnd : l.Nodup) (ha : a ∈ l) (hb : b ∈ l) (hab : a ≠ b) : plc l a < plc l b ↔ ∃ p q r, l = p ++ a :: q ++ b :: r := by
  constructor
  · intro h
    obtain ⟨p, s, hp⟩ := List.append_of_mem ha
    have hap : a ∉ p := fun hm => by
      rw [hp, List.nodup_append] at hnd
      exact hnd.2.2 a hm a (by simp) rfl
    by_cases hbp : b ∈ p
    · exfalso
      obtain ⟨u, t, hu⟩ := List.append_of_mem hbp
      have hbu : b ∉ u := fun hm => by
        rw [hp, hu] at hnd
        rw [List.append_assoc, List.nodup_append] at hnd
        exact hnd.2.2 b hm b (by simp) rfl
      rw [hp, plc_split hap, hu, List.append_assoc, List.cons_append, plc_split hbu] at h
      simp at h
      omega
    · have hbs : b ∈ s := by
        rw [hp, List.mem_append, List.mem_cons] at hb
        rcases hb with hb | hb | hb
        · exact absurd hb hbp
        · exact absurd hb.symm hab
        · exact hb
      obtain ⟨q, r, hq⟩ := List.append_of_mem hbs
      exact ⟨p, q, r, by rw [hp, hq]; simp⟩
  · rintro ⟨p, q, r, h⟩
    have hap : a ∉ p := fun hm => by
      rw [h, List.append_assoc, List.nodup_append] at hnd
      exact hnd.2.2 a hm a (by simp) rfl
    have hbp : b ∉ p ++ a :: q := fun hm => by
      rw [h, List.nodup_append] at hnd
      exact hnd.2.2 b hm b (by simp) rfl
    have e1 : plc l a = p.length := by rw [h, List.append_assoc, List.cons_append]; exact plc_split hap
    have e2 : plc l b = (p ++ a :: q).length := by rw [h]; exact plc_split hbp
    rw [e1, e2]
    simp
/-! Plainly: the document's Right and topo's Right are both RightO. -/
section
variable {n : Nat} {xs : List (Int × Int × Int)} {l : List Int}
def refR (n : Nat) (xs : List (Int × Int × Int)) (l : List Int) : Bool := (nodes n).all (fun v => decide (l.count v = 1)) && (xs.all (fun e => scan e.1 e.2.1 false l) && decide (l.length = n))
theorem nodes_nodup (n : Nat) : (nodes n).Nodup := by
  unfold nodes
  refine List.pairwise_map.2 ?_
  exact List.Pairwise.imp (fun h => by omega) List.nodup_range
/-- edges join two nodes -/
def Joins (n : Nat) (xs : List (Int × Int × Int)) : Prop := ∀ e ∈ xs, ((0 ≤ e.1 ∧ e.1 < n) ∧ 0 ≤ e.2.1 ∧ e.2.1 < n) ∧ e.1 ≠ e.2.1
def OrdOk (n : Nat) (l : List Int) : Prop := l.length = n ∧ l.Nodup ∧ ∀ v ∈ l, 0 ≤ v ∧ v < n
theorem ordOk_counts : OrdOk n l ↔ (∀ v ∈ nodes n, l.count v = 1) ∧ l.length = n := by
  constructor
  · rintro ⟨h1, h2, h3⟩
    refine ⟨fun v hv => ?_, h1⟩
    have hm : v ∈ l := nodup_full h2 h3 (by omega) (mem_nodes.1 hv)
    have h4 := List.nodup_iff_count.1 h2 v
    have h5 := List.count_pos_iff.2 hm
    omega
  · rintro ⟨h1, h2⟩
    have hsub : ∀ v ∈ nodes n, v ∈ l := fun v hv => List.count_pos_iff.1 (by rw [h1 v hv]; decide)
    have hr : ∀ v ∈ l, v ∈ nodes n := fun v hv => by
      by_cases hm : v ∈ nodes n
      · exact hm
      · exfalso
        have := nodup_len (nodes_nodup n) (m := l.erase v) fun u hu => by
          rw [List.mem_erase_of_ne (by rintro rfl; exact hm hu)]
          exact hsub u hu
        rw [nodes_len, List.length_erase_of_mem hv] at this
        have := List.length_pos_of_mem hv
        omega
    refine ⟨h2, List.nodup_iff_count.2 fun v => ?_, fun v hv => mem_nodes.1 (hr v hv)⟩
    by_cases hv : v ∈ l
    · rw [h1 v (hr v hv)]; exact Nat.le_refl _
    · rw [List.count_eq_zero.2 hv]; exact Nat.zero_le _
theorem ordOk_mem (h : OrdOk n l) {v : Int} (hv : 0 ≤ v ∧ v < n) : v ∈ l := nodup_full h.2.1 h.2.2 (by have := h.1; omega) hv
theorem split_ahead {a b : Int} (hnd : l.Nodup) (h : ∃ p q r, l = p ++ a :: q ++ b :: r) : ∃ p q r, l = p ++ a :: q ++ b :: r ∧ b ∉ p := by
  obtain ⟨p, q, r, h⟩ := h
  refine ⟨p, q, r, h, fun hm => ?_⟩
  rw [h, List.nodup_append] at hnd
  exact hnd.2.2 b (by simp [hm]) b (by simp) rfl
theorem refR_iff (hj : Joins n xs) : refR n xs l = true ↔ RightO n xs l := by
  unfold refR
  rw [Bool.and_eq_true, Bool.and_eq_true, List.all_eq_true, List.all_eq_true]
  simp only [decide_eq_true_eq]
  constructor
  · rintro ⟨h1, h2, h3⟩
    have ho := ordOk_counts.2 ⟨h1, h3⟩
    refine ⟨ho, fun e he => ?_⟩
    obtain ⟨⟨j1, j2⟩, j3⟩ := hj e he
    obtain ⟨p, q, r, h, _⟩ := (scan_iff j3 (ordOk_mem ho j1) (ordOk_mem ho j2)).1 (h2 e he)
    exact ⟨p, q, r, h⟩
  · rintro ⟨ho, h2⟩
    obtain ⟨h1, h3⟩ := ordOk_counts.1 ho
    refine ⟨h1, fun e he => ?_, h3⟩
    obtain ⟨⟨j1, j2⟩, j3⟩ := hj e he
    exact (scan_iff j3 (ordOk_mem ho j1) (ordOk_mem ho j2)).2 (split_ahead ho.2.1 (h2 e he))
theorem plc_tot {a b : Int} (hnd : l.Nodup) (ha : a ∈ l) (hb : b ∈ l) (hab : a ≠ b) : plc l a < plc l b ∨ plc l b < plc l a := by
  rw [plc_iff hnd ha hb hab, plc_iff hnd hb ha (Ne.symm hab)]
  obtain ⟨p, s, hp⟩ := List.append_of_mem ha
  have : b ∈ p ∨ b ∈ s := by
    rw [hp, List.mem_append, List.mem_cons] at hb
    rcases hb with hb | hb | hb
    · exact .inl hb
    · exact absurd hb.symm hab
    · exact .inr hb
  rcases this with h | h
  · obtain ⟨u, t, hu⟩ := List.append_of_mem h
    exact .inr ⟨u, t, s, by rw [hp, hu]⟩
  · obtain ⟨u, t, hu⟩ := List.append_of_mem h
    exact .inl ⟨p, u, t, by rw [hp, hu]; simp⟩
theorem codeR_iff (hj : Joins n xs) : (OrdOk n l ∧ ∀ e ∈ xs, ¬ plc l e.2.1 < plc l e.1) ↔ RightO n xs l := by
  constructor
  · rintro ⟨ho, h2⟩
    refine ⟨ho, fun e he => ?_⟩
    obtain ⟨⟨j1, j2⟩, j3⟩ := hj e he
    rcases plc_tot ho.2.1 (ordOk_mem ho j1) (ordOk_mem ho j2) j3 with h | h
    · exact (plc_iff ho.2.1 (ordOk_mem ho j1) (ordOk_mem ho j2) j3).1 h
    · exact absurd h (h2 e he)
  · rintro ⟨ho, h2⟩
    refine ⟨ho, fun e he => ?_⟩
    obtain ⟨⟨j1, j2⟩, j3⟩ := hj e he
    have := (plc_iff ho.2.1 (ordOk_mem ho j1) (ordOk_mem ho j2) j3).2 (h2 e he)
    omega
end
/-! Plainly: the heap holds the nodes that are free; its least is the next. -/
/-- a heap that holds each number that something holds of, once -/
def HInv (H : List Int) (P : Int → Bool) : Prop := Heap H ∧ ∀ v, H.count v = if P v = true then 1 else 0
theorem hinv_mem {H : List Int} {P : Int → Bool} (h : HInv H P) {v : Int} : v ∈ H ↔ P v = true := by
  rw [← List.count_pos_iff, h.2 v]
  split <;> simp_all
theorem hinv_least {H : List Int} {P : Int → Bool} (h : HInv H P) (hl : 0 < H.length) : P (gi H 0) = true ∧ ∀ u, P u = true → gi H 0 ≤ u := by
  refine ⟨(hinv_mem h).1 (List.mem_of_getElem? (gi_get hl)), fun u hu => ?_⟩
  obtain ⟨j, hj⟩ := List.getElem?_of_mem ((hinv_mem h).2 hu)
  have hjl := (List.getElem?_eq_some_iff.1 hj).1
  have := heap_min h.1 j hjl
  rw [gi_some hj] at this
  exact this
theorem hinv_congr {H : List Int} {P Q : Int → Bool} (h : HInv H P) (hpq : ∀ v, P v = Q v) : HInv H Q := ⟨h.1, fun v => by rw [h.2 v, hpq v]⟩
/-- one put in -/
theorem hinv_put {H H' : List Int} {P : Int → Bool} {v : Int} (h : HInv H P) (hv : P v = false) (h1 : Heap H') (h2 : Same H' (H ++ [v])) : HInv H' (fun u => P u || decide (u = v)) := by
  refine ⟨h1, fun u => ?_⟩
  rw [h2 u, List.count_append, List.count_singleton, h.2 u]
  by_cases hu : u = v
  · subst hu
    simp [hv]
  · have : (v == u) = false := by simp; exact fun e => hu e.symm
    simp [this, hu]
/-- the least taken out -/
theorem hinv_take {H H' : List Int} {P : Int → Bool} (h : HInv H P) (hl : 0 < H.length) (h1 : Heap H') (h2 : ∀ x, H'.count x + (if gi H 0 = x then 1 else 0) = H.count x) : HInv H' (fun u => P u && !decide (u = gi H 0)) := by
  refine ⟨h1, fun u => ?_⟩
  have h3 := h2 u
  rw [h.2 u] at h3
  have h4 := (hinv_least h hl).1
  by_cases hu : u = gi H 0
  · subst hu
    rw [if_pos rfl, if_pos h4] at h3
    simp
    omega
  · rw [if_neg (fun e => hu e.symm)] at h3
    simp [hu]
    simp at h3
    exact h3
section
variable {n : Nat} {xs : List (Int × Int × Int)}
def freeN (n : Nat) (xs : List (Int × Int × Int)) (T : List Int) (v : Int) : Bool := (decide (0 ≤ v) && decide (v < n)) && freeV xs T v
theorem freeN_iff {T : List Int} {v : Int} : freeN n xs T v = true ↔ (0 ≤ v ∧ v < n) ∧ freeV xs T v = true := by
  unfold freeN
  rw [Bool.and_eq_true, Bool.and_eq_true, decide_eq_true_eq, decide_eq_true_eq]
theorem hinv_next {H T : List Int} (h : HInv H (freeN n xs T)) (hl : 0 < H.length) : nextN n xs T = some (gi H 0) := by
  obtain ⟨h1, h2⟩ := hinv_least h hl
  obtain ⟨h3, h4⟩ := freeN_iff.1 h1
  obtain ⟨v, hv⟩ := next_any h3 h4
  have h5 := next_least hv h3 h4
  have h6 := h2 v (freeN_iff.2 (next_some hv))
  rw [hv, show v = gi H 0 by omega]
theorem hinv_none {H T : List Int} (h : HInv H (freeN n xs T)) (hl : H.length = 0) : nextN n xs T = none := by
  cases hv : nextN n xs T with
  | none => rfl
  | some v =>
    have := (hinv_mem h).2 (freeN_iff.2 (next_some hv))
    rw [List.eq_nil_of_length_eq_zero hl] at this
    cases this
/-- edges into a node that come neither from T nor are among q -/
def cntQ (xs : List (Int × Int × Int)) (T : List Int) (q : List (Int × Int × Int)) (u : Int) : Nat := xs.countP fun e => decide (e.2.1 = u) && (!decide (e.1 ∈ T) && !decide (e ∈ q))
theorem cntQ_zero {T : List Int} {q : List (Int × Int × Int)} {u : Int} : cntQ xs T q u = 0 ↔ ∀ e ∈ xs, e.2.1 = u → e.1 ∈ T ∨ e ∈ q := by
  unfold cntQ
  rw [List.countP_eq_zero]
  constructor
  · intro h e he hu
    have := h e he
    by_cases h1 : e.1 ∈ T
    · exact .inl h1
    · by_cases h2 : e ∈ q
      · exact .inr h2
      · simp [hu, h1, h2] at this
  · intro h e he
    by_cases hu : e.2.1 = u
    · rcases h e he hu with h1 | h1 <;> simp [h1]
    · simp [hu]
theorem freeV_cnt {T : List Int} {v : Int} : freeV xs T v = true ↔ v ∉ T ∧ cntQ xs T [] v = 0 := by
  rw [freeV_iff, cntQ_zero]
  simp
end
/-! Plainly: edges yet to come, one by one. -/
theorem countP_one {α : Type} {p p' : α → Bool} {a : α} : ∀ {xs : List α}, xs.Nodup → a ∈ xs → p a = true → p' a = false → (∀ x ∈ xs, x ≠ a → p' x = p x) → xs.countP p = xs.countP p' + 1
  | [], _, h, _, _, _ => by cases h
  | x :: xs, hnd, h, h1, h2, h3 => by
    obtain ⟨hx, hnd'⟩ := List.nodup_cons.1 hnd
    rw [List.countP_cons, List.countP_cons]
    by_cases hxa : x = a
    · subst hxa
      rw [if_pos h1, if_neg (by rw [h2]; decide)]
      have : xs.countP p = xs.countP p' := List.countP_congr fun y hy => by rw [h3 y (by simp [hy]) (by rintro rfl; exact hx hy)]
      omega
    · have ha : a ∈ xs := by
        rcases List.mem_cons.1 h with e | e
        · exact absurd e.symm hxa
        · exact e
      have := countP_one hnd' ha h1 h2 (fun y hy => h3 y (by simp [hy]))
      rw [h3 x (by simp) hxa]
      omega
section
variable {xs : List (Int × Int × Int)}
theorem cntQ_step {T : List Int} {q : List (Int × Int × Int)} {e0 : Int × Int × Int} (hnd : xs.Nodup) (h0 : e0 ∈ xs) (hT : e0.1 ∉ T) (hq : e0 ∉ q) (u : Int) :
    cntQ xs T q u = cntQ xs T (q ++ [e0]) u + if u = e0.2.1 then 1 else 0 := by
  unfold cntQ
  by_cases hu : u = e0.2.1
  · rw [if_pos hu]
    refine countP_one hnd h0 ?_ ?_ fun x _ hne => ?_
    · simp [hu, hT, hq]
    · simp
    · simp [hne]
  · rw [if_neg hu, Nat.add_zero]
    refine List.countP_congr fun x hx => ?_
    by_cases hxe : x = e0
    · subst hxe
      simp [Ne.symm hu]
    · simp [hxe]
/-- all the edges of a node done: it is taken -/
theorem cntQ_next {T : List Int} {q : List (Int × Int × Int)} {v : Int} (hq : ∀ e, e ∈ q ↔ e ∈ xs ∧ e.1 = v) (u : Int) : cntQ xs T q u = cntQ xs (T ++ [v]) [] u := by
  unfold cntQ
  refine List.countP_congr fun e he => ?_
  have := hq e
  by_cases hv : e.1 = v
  · simp [this.2 ⟨he, hv⟩, hv]
  · have hn : e ∉ q := fun h => hv (this.1 h).2
    simp [hn, hv]
end
end Go.Proofs.Ytepgpiolhiidiaa
