/- What Unique, Least and Find are, of a row in order: plain facts. -/
import Derived.Test.YtecfceabioajkaaStr
namespace Go.Proofs.Ytecfceabioajkaa
open Go.RowKit

section
variable {α : Type} {lt ne : α → α → Bool}
theorem uniq_strict (h : SWO lt) (hne : ∀ x y, ne x y = false ↔ x = y) (htot : ∀ a b, lt a b = false → lt b a = false → a = b) :
    ∀ (n : Nat) (xs : List α), xs.length = n → srt lt xs → (uniq ne xs).Pairwise (fun a b => lt a b = true) ∧ (∀ x, x ∈ uniq ne xs ↔ x ∈ xs) ∧ (uniq ne xs)[0]? = xs[0]?
  | 0, xs, hl, _ => by
    have : xs = [] := List.eq_nil_of_length_eq_zero hl
    subst this
    exact ⟨List.Pairwise.nil, fun _ => Iff.rfl, rfl⟩
  | n + 1, xs, hl, hs => by
    obtain ⟨ys, x, rfl⟩ : ∃ ys x, xs = ys ++ [x] := by
      rcases List.eq_nil_or_concat xs with rfl | ⟨ys, y, rfl⟩
      · simp at hl
      · exact ⟨ys, y, by simp⟩
    have hys : srt lt ys := (List.pairwise_append.1 hs).1
    have hx : ∀ y ∈ ys, lt x y = false := fun y hy => (List.pairwise_append.1 hs).2.2 y hy x (by simp)
    obtain ⟨ih1, ih2, ih3⟩ := uniq_strict h hne htot n ys (by simpa using hl) hys
    rw [uniq_snoc]
    cases hl' : (uniq ne ys).getLast? with
    | none =>
      have he : uniq ne ys = [] := by simpa using hl'
      have hy : ys = [] := by
        cases ys with
        | nil => rfl
        | cons z zs => have := (ih2 z).2 (by simp); rw [he] at this; simp at this
      subst hy
      exact ⟨by simp, fun _ => Iff.rfl, rfl⟩
    | some y =>
      obtain ⟨us, hus⟩ : ∃ us, uniq ne ys = us ++ [y] := by
        obtain ⟨us, e⟩ := List.getLast?_eq_some_iff.1 hl'
        exact ⟨us, e⟩
      have hyy : y ∈ ys := (ih2 y).1 (by rw [hus]; simp)
      simp only
      by_cases hxy : ne y x = true
      · rw [if_pos hxy]
        have hyx : lt y x = true := by
          cases h1 : lt y x
          · have := htot y x h1 (hx y hyy)
            rw [(hne y x).2 this] at hxy
            cases hxy
          · rfl
        refine ⟨List.pairwise_append.2 ⟨ih1, by simp, fun a ha b hb => ?_⟩, fun z => by simp [ih2], ?_⟩
        · obtain rfl : b = x := by simpa using hb
          rw [hus] at ha ih1
          rcases List.mem_append.1 ha with ha | ha
          · exact h.tr a y b ((List.pairwise_append.1 ih1).2.2 a ha y (by simp)) hyx
          · obtain rfl : a = y := by simpa using ha
            exact hyx
        · have hpos : 0 < (uniq ne ys).length := by rw [hus]; simp
          have hposy : 0 < ys.length := List.length_pos_of_mem hyy
          rw [List.getElem?_append_left hpos, List.getElem?_append_left hposy, ih3]
      · rw [if_neg hxy]
        have : y = x := (hne y x).1 (by simpa using hxy)
        subst this
        have hposy : 0 < ys.length := List.length_pos_of_mem hyy
        refine ⟨ih1, fun z => ⟨fun hz => by simp [(ih2 z).1 hz], fun hz => ?_⟩, ?_⟩
        · rcases List.mem_append.1 hz with hz | hz
          · exact (ih2 z).2 hz
          · obtain rfl : z = y := by simpa using hz
            exact (ih2 z).2 hyy
        · rw [List.getElem?_append_left hposy, ih3]

theorem leastTo_min (h : SWO lt) (xs : List α) : ∀ k, 0 < k → k ≤ xs.length → ∃ x, xs[leastTo lt xs k]? = some x ∧ ∀ y ∈ xs.take k, lt y x = false
  | 0, h0, _ => absurd h0 (Nat.lt_irrefl 0)
  | 1, _, hk => by
    obtain ⟨x, hx⟩ := get_some (xs := xs) (i := 0) (by omega)
    refine ⟨x, ?_, ?_⟩
    · rw [leastTo_succ (m := 0) rfl hx hx]
      split <;> exact hx
    · intro y hy
      rw [take_snoc hx] at hy
      obtain rfl : y = x := by simpa using hy
      exact h.irr y
  | k + 2, _, hk => by
    obtain ⟨x, hx, hmin⟩ := leastTo_min h xs (k + 1) (by omega) (by omega)
    obtain ⟨z, hz⟩ := get_some (xs := xs) (i := k + 1) (by omega)
    rw [leastTo_succ (m := leastTo lt xs (k + 1)) rfl hz hx]
    by_cases hzx : lt z x = true
    · rw [if_pos hzx]
      refine ⟨z, hz, fun y hy => ?_⟩
      rw [take_snoc hz] at hy
      rcases List.mem_append.1 hy with hy | hy
      · cases hyz : lt y z
        · rfl
        · have := h.tr y z x hyz hzx
          rw [hmin y hy] at this
          cases this
      · obtain rfl : y = z := by simpa using hy
        exact h.irr y
    · rw [if_neg hzx]
      refine ⟨x, hx, fun y hy => ?_⟩
      rw [take_snoc hz] at hy
      rcases List.mem_append.1 hy with hy | hy
      · exact hmin y hy
      · obtain rfl : y = z := by simpa using hy
        simpa using hzx
theorem srt_head (h : SWO lt) {xs : List α} (hs : srt lt xs) {z : α} (hz : xs[0]? = some z) : ∀ y ∈ xs, lt y z = false := by
  cases xs with
  | nil => simp at hz
  | cons a xs =>
    obtain rfl : a = z := by simpa using hz
    intro y hy
    rcases List.mem_cons.1 hy with rfl | hy
    · exact h.irr y
    · exact (List.pairwise_cons.1 hs).1 y hy
end

theorem neS_iff (x y : ByteArray) : neS x y = false ↔ x = y := by
  simp only [neS, Bool.not_eq_false', beq_iff_eq]
  exact ⟨toList_inj, fun h => by rw [h]⟩
theorem totS (a b : ByteArray) (h1 : ltS a b = false) (h2 : ltS b a = false) : a = b := toList_inj (less_tot _ _ h1 h2)
theorem cmpS_neg (a b : ByteArray) : cmpS a b < 0 ↔ ltS a b = true := by
  have := cmpS_lt a b
  rw [← this]
  simp

/-- of a row without a text twice, in order, the place between is where the text stands -/
theorem between_at {us : List ByteArray} (hp : us.Pairwise (fun a b => ltS a b = true)) {j k : Nat} {x : ByteArray} (hx : us[j]? = some x) (hk : Between (fun y => cmpS y x) us k) : k = j := by
  obtain ⟨h1, h2, h3⟩ := hk
  obtain ⟨hj, ej⟩ := List.getElem?_eq_some_iff.1 hx
  rcases Nat.lt_trichotomy k j with h | h | h
  · obtain ⟨y, hy⟩ := get_some (xs := us) (i := k) (by omega)
    obtain ⟨hk, ek⟩ := List.getElem?_eq_some_iff.1 hy
    have hl := List.pairwise_iff_getElem.1 hp k j hk hj h
    rw [ek, ej] at hl
    have h0 : 0 ≤ cmpS y x := h3 y hy
    have := (cmpS_neg y x).2 hl
    omega
  · exact h
  · obtain ⟨y, hy⟩ := get_some (xs := us) (i := k - 1) (by omega)
    obtain ⟨hk, ek⟩ := List.getElem?_eq_some_iff.1 hy
    have hl := (cmpS_neg y x).1 (h2 y (by omega) hy)
    by_cases he : k - 1 = j
    · subst he
      rw [ej] at ek
      subst ek
      rw [swo_S.irr] at hl
      cases hl
    · have := List.pairwise_iff_getElem.1 hp j (k - 1) hj hk (by omega)
      rw [ej, ek] at this
      rw [swo_S.asym this] at hl
      cases hl
theorem cmpS_self (x : ByteArray) : (cmpS x x == 0) = true := by rw [cmpS_eq]; simp
theorem found_at {us : List ByteArray} {j : Nat} {x : ByteArray} (hx : us[j]? = some x) : foundB (fun y => cmpS y x) us j = true := by rw [foundB_some hx]; exact cmpS_self x
theorem found_mem {us : List ByteArray} (hp : us.Pairwise (fun a b => ltS a b = true)) {k : Nat} {s : ByteArray} (hk : Between (fun y => cmpS y s) us k) : foundB (fun y => cmpS y s) us k = true ↔ s ∈ us := by
  constructor
  · intro h
    cases hx : us[k]? with
    | none => simp [foundB, hx] at h
    | some y =>
      rw [foundB_some hx, cmpS_eq, beq_iff_eq] at h
      have := toList_inj h
      subst this
      exact List.mem_of_getElem? hx
  · intro h
    obtain ⟨j, hj⟩ := List.getElem?_of_mem h
    obtain rfl := between_at hp hj hk
    exact found_at hj
end Go.Proofs.Ytecfceabioajkaa
