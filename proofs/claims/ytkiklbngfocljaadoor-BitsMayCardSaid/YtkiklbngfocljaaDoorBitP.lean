/- Sets of numbers as rows of words, in plain Lean. -/
import Derived.Laws.Bits64b
import Derived.Laws.BitsAllLaws
namespace Go.Proofs.YtkiklbngfocljaaDoor

/-! the lowest bit -/
theorem lowbit : ∀ x : Nat, 0 < x → ∃ k, x.testBit k = true ∧ (∀ i, i < k → x.testBit i = false) ∧ (x - 1).testBit k = false ∧ ∀ i, k < i → (x - 1).testBit i = x.testBit i := by
  intro x
  induction x using Nat.strongRecOn with
  | _ x ih =>
    intro hx
    by_cases ho : x % 2 = 1
    · refine ⟨0, by simp [Nat.testBit_zero, ho], by omega, by simp [Nat.testBit_zero]; omega, fun i hi => ?_⟩
      obtain ⟨j, rfl⟩ : ∃ j, i = j + 1 := ⟨i - 1, by omega⟩
      rw [Nat.testBit_succ, Nat.testBit_succ, show (x - 1) / 2 = x / 2 by omega]
    · obtain ⟨k, h1, h2, h3, h4⟩ := ih (x / 2) (by omega) (by omega)
      have hs : (x - 1) / 2 = x / 2 - 1 := by omega
      refine ⟨k + 1, by rw [Nat.testBit_succ]; exact h1, fun i hi => ?_, by rw [Nat.testBit_succ, hs]; exact h3, fun i hi => ?_⟩
      · cases i with
        | zero => simp [Nat.testBit_zero]; omega
        | succ i => rw [Nat.testBit_succ]; exact h2 i (by omega)
      · obtain ⟨j, rfl⟩ : ∃ j, i = j + 1 := ⟨i - 1, by omega⟩
        rw [Nat.testBit_succ, Nat.testBit_succ, hs]
        exact h4 j (by omega)
/-- the place of the lowest bit among 64 -/
def tz (x : Nat) : Nat := ((List.range 64).find? x.testBit).getD 64
theorem testBit_lt {x i : Nat} (hx : x < 18446744073709551616) (h : x.testBit i = true) : i < 64 := by
  rcases Nat.lt_or_ge i 64 with h1 | h1
  · exact h1
  · rw [Nat.testBit_lt_two_pow (Nat.lt_of_lt_of_le hx (Nat.le_trans (by decide) (Nat.pow_le_pow_right (by decide) h1)))] at h
    cases h
theorem find_range (p : Nat → Bool) (n k : Nat) (hk : k < n) (h : p k = true) (hb : ∀ i, i < k → p i = false) : (List.range n).find? p = some k := by
  rw [List.find?_range_eq_some]
  exact ⟨h, List.mem_range.2 hk, fun i hi => by simp [hb i hi]⟩
theorem tz_spec {x : Nat} (h0 : 0 < x) (hx : x < 18446744073709551616) :
    tz x < 64 ∧ x.testBit (tz x) = true ∧ (∀ i, i < tz x → x.testBit i = false) ∧ (x - 1).testBit (tz x) = false ∧ ∀ i, tz x < i → (x - 1).testBit i = x.testBit i := by
  obtain ⟨k, h1, h2, h3, h4⟩ := lowbit x h0
  have hk := testBit_lt hx h1
  have : tz x = k := by unfold tz; rw [find_range _ 64 k hk h1 h2]; rfl
  rw [this]
  exact ⟨hk, h1, h2, h3, h4⟩
theorem low_and {x : Nat} (h0 : 0 < x) (hx : x < 18446744073709551616) : x &&& (18446744073709551616 - x) = 2 ^ tz x := by
  obtain ⟨hk, h1, h2, h3, h4⟩ := tz_spec h0 hx
  apply Nat.eq_of_testBit_eq
  intro i
  rw [Nat.testBit_and, Nat.testBit_two_pow, show 18446744073709551616 - x = 2 ^ 64 - (x - 1 + 1) by omega, Nat.testBit_two_pow_sub_succ (by omega)]
  rcases Nat.lt_trichotomy i (tz x) with h | h | h
  · rw [h2 i h]; simp; omega
  · subst h; rw [h1, h3]; simp [hk]
  · rw [h4 i h, decide_eq_false (by omega : ¬ tz x = i)]
    cases x.testBit i <;> simp
theorem low_clear {x : Nat} (h0 : 0 < x) (hx : x < 18446744073709551616) (i : Nat) : (x &&& (x - 1)).testBit i = (x.testBit i && decide (i ≠ tz x)) := by
  obtain ⟨hk, h1, h2, h3, h4⟩ := tz_spec h0 hx
  rw [Nat.testBit_and]
  rcases Nat.lt_trichotomy i (tz x) with h | h | h
  · rw [h2 i h]; simp
  · subst h; rw [h3]; simp
  · rw [h4 i h, decide_eq_true (by omega : i ≠ tz x)]
    cases x.testBit i <;> rfl
/-- the bits of a word, rising -/
def bitsOf (x : Nat) : List Nat := (List.range 64).filter x.testBit
theorem bitsOf_zero : bitsOf 0 = [] := by
  unfold bitsOf
  rw [List.filter_eq_nil_iff]
  intro i _
  simp
theorem filter_first (p : Nat → Bool) (k : Nat) : ∀ (l : List Nat), l.Pairwise (· < ·) → k ∈ l → p k = true → (∀ i, i < k → p i = false) → l.filter p = k :: l.filter (fun i => p i && decide (i ≠ k))
  | [], _, h, _, _ => by cases h
  | a :: l, hs, hm, hp, hb => by
    rw [List.pairwise_cons] at hs
    by_cases hak : a = k
    · subst hak
      rw [List.filter_cons_of_pos hp, List.filter_cons_of_neg (by simp)]
      congr 1
      apply List.filter_congr
      intro i hi
      have := hs.1 i hi
      rw [decide_eq_true (by omega : i ≠ a), Bool.and_true]
    · have hm' : k ∈ l := by
        rcases List.mem_cons.1 hm with h | h
        · exact absurd h.symm hak
        · exact h
      have hlt := hs.1 k hm'
      rw [List.filter_cons_of_neg (by rw [hb a hlt]; decide), List.filter_cons_of_neg (by rw [hb a hlt]; simp)]
      exact filter_first p k l hs.2 hm' hp hb
theorem bitsOf_step {x : Nat} (h0 : 0 < x) (hx : x < 18446744073709551616) : bitsOf x = tz x :: bitsOf (x &&& (x - 1)) := by
  obtain ⟨hk, h1, h2, h3, h4⟩ := tz_spec h0 hx
  unfold bitsOf
  rw [filter_first x.testBit (tz x) (List.range 64) List.pairwise_lt_range (List.mem_range.2 hk) h1 h2]
  congr 1
  apply List.filter_congr
  intro i _
  rw [low_clear h0 hx]
theorem and_pred_lt {x : Nat} (h0 : 0 < x) : x &&& (x - 1) < x := Nat.lt_of_le_of_lt Nat.and_le_right (by omega)
theorem bitsOf_length_lt {x : Nat} (h0 : 0 < x) (hx : x < 18446744073709551616) : (bitsOf (x &&& (x - 1))).length < (bitsOf x).length := by
  rw [bitsOf_step h0 hx]
  simp
theorem mem_bitsOf {x i : Nat} (hx : x < 18446744073709551616) : i ∈ bitsOf x ↔ x.testBit i = true := by
  unfold bitsOf
  rw [List.mem_filter, List.mem_range]
  exact ⟨fun h => h.2, fun h => ⟨testBit_lt hx h, h⟩⟩

/-! rows of words -/
abbrev Fit (ws : List Nat) : Prop := ∀ x ∈ ws, x < 18446744073709551616
/-- the numbers of words, from the i-th word on -/
def numsAt : Nat → List Nat → List Nat
  | _, [] => []
  | i, w :: ws => (bitsOf w).map (64 * i + ·) ++ numsAt (i + 1) ws
def nums (ws : List Nat) : List Nat := numsAt 0 ws
def wat (ws : List Nat) (i : Nat) : Nat := (ws[i]?).getD 0
/-- is a number in the set? -/
def has (ws : List Nat) (n : Nat) : Bool := (wat ws (n / 64)).testBit (n % 64)
theorem mem_numsAt : ∀ {i : Nat} {ws : List Nat} (_ : Fit ws) {n : Nat}, n ∈ numsAt i ws ↔ 64 * i ≤ n ∧ has ws (n - 64 * i) = true
  | _, [], _, n => by simp [numsAt, has, wat]
  | i, w :: ws, hf, n => by
    have hw := hf w (by simp)
    have ih := mem_numsAt (i := i + 1) (ws := ws) (fun x hx => hf x (by simp [hx])) (n := n)
    rw [numsAt, List.mem_append, ih, List.mem_map]
    constructor
    · rintro (⟨k, hk, rfl⟩ | ⟨h1, h2⟩)
      · rw [mem_bitsOf hw] at hk
        have := testBit_lt hw hk
        refine ⟨by omega, ?_⟩
        unfold has wat
        rw [show 64 * i + k - 64 * i = k by omega, show k / 64 = 0 by omega, show k % 64 = k by omega]
        simpa using hk
      · refine ⟨by omega, ?_⟩
        unfold has wat at h2 ⊢
        rw [show (n - 64 * i) / 64 = (n - 64 * (i + 1)) / 64 + 1 by omega, show (n - 64 * i) % 64 = (n - 64 * (i + 1)) % 64 by omega]
        simpa using h2
    · rintro ⟨h1, h2⟩
      unfold has wat at h2
      by_cases hlt : n < 64 * (i + 1)
      · left
        rw [show (n - 64 * i) / 64 = 0 by omega, show (n - 64 * i) % 64 = n - 64 * i by omega] at h2
        exact ⟨n - 64 * i, (mem_bitsOf hw).2 (by simpa using h2), by omega⟩
      · right
        refine ⟨by omega, ?_⟩
        unfold has wat
        rw [show (n - 64 * i) / 64 = (n - 64 * (i + 1)) / 64 + 1 by omega, show (n - 64 * i) % 64 = (n - 64 * (i + 1)) % 64 by omega] at h2
        simpa using h2
theorem mem_nums {ws : List Nat} (hf : Fit ws) {n : Nat} : n ∈ nums ws ↔ has ws n = true := by
  unfold nums
  rw [mem_numsAt hf]
  simp
theorem bitsOf_sorted (x : Nat) : (bitsOf x).Pairwise (· < ·) := List.Pairwise.filter _ List.pairwise_lt_range
theorem numsAt_sorted : ∀ (i : Nat) (ws : List Nat), Fit ws → (numsAt i ws).Pairwise (· < ·) ∧ ∀ n ∈ numsAt i ws, 64 * i ≤ n
  | _, [], _ => ⟨List.Pairwise.nil, by simp [numsAt]⟩
  | i, w :: ws, hf => by
    have hw := hf w (by simp)
    obtain ⟨h1, h2⟩ := numsAt_sorted (i + 1) ws (fun x hx => hf x (by simp [hx]))
    rw [numsAt]
    refine ⟨List.pairwise_append.2 ⟨?_, h1, ?_⟩, ?_⟩
    · rw [List.pairwise_map]
      exact (bitsOf_sorted w).imp (by intro a b h; omega)
    · intro a ha b hb
      obtain ⟨k, hk, rfl⟩ := List.mem_map.1 ha
      have := testBit_lt hw ((mem_bitsOf hw).1 hk)
      have := h2 b hb
      omega
    · intro n hn
      rcases List.mem_append.1 hn with h | h
      · obtain ⟨k, hk, rfl⟩ := List.mem_map.1 h; omega
      · have := h2 n h; omega
theorem nums_sorted {ws : List Nat} (hf : Fit ws) : (nums ws).Pairwise (· < ·) := (numsAt_sorted 0 ws hf).1
/-- the last word is not 0 -/
def canon (ws : List Nat) : Prop := ∀ x, ws.getLast? = some x → x ≠ 0
theorem has_out {ws : List Nat} {n : Nat} (h : ws.length ≤ n / 64) : has ws n = false := by
  unfold has wat
  rw [List.getElem?_eq_none h]
  simp
theorem wat_fit {ws : List Nat} (hf : Fit ws) (i : Nat) : wat ws i < 18446744073709551616 := by
  unfold wat
  cases h : ws[i]? with
  | none => decide
  | some x => exact hf x (List.mem_of_getElem? h)
theorem wat_ext {a b : List Nat} (ha : Fit a) (hb : Fit b) (h : ∀ n, has a n = has b n) (i : Nat) : wat a i = wat b i := by
  apply Nat.eq_of_testBit_eq
  intro j
  by_cases hj : j < 64
  · have := h (64 * i + j)
    unfold has at this
    rwa [show (64 * i + j) / 64 = i by omega, show (64 * i + j) % 64 = j by omega] at this
  · rw [Bool.eq_false_iff.2 (fun hc => hj (testBit_lt (wat_fit ha i) hc)), Bool.eq_false_iff.2 (fun hc => hj (testBit_lt (wat_fit hb i) hc))]
theorem canon_len {a b : List Nat} (ca : canon a) (h : ∀ i, wat a i = wat b i) : a.length ≤ b.length := by
  rcases Nat.lt_or_ge b.length a.length with hlt | hge
  · have h1 := h (a.length - 1)
    unfold wat at h1
    rw [List.getElem?_eq_none (l := b) (by omega), ← List.getLast?_eq_getElem?] at h1
    cases hl : a.getLast? with
    | none => rw [List.getLast?_eq_none_iff] at hl; subst hl; simp at hlt
    | some x => rw [hl] at h1; exact absurd h1 (ca x hl)
  · exact hge
theorem canon_ext {a b : List Nat} (ha : Fit a) (hb : Fit b) (ca : canon a) (cb : canon b) (h : ∀ n, has a n = has b n) : a = b := by
  have hw := wat_ext ha hb h
  have hl : a.length = b.length := Nat.le_antisymm (canon_len ca hw) (canon_len cb (fun i => (hw i).symm))
  apply List.ext_getElem hl
  intro i h1 h2
  have := hw i
  unfold wat at this
  rw [List.getElem?_eq_getElem h1, List.getElem?_eq_getElem h2] at this
  exact this
theorem sorted_ext {a b : List Nat} (ha : a.Pairwise (· < ·)) (hb : b.Pairwise (· < ·)) (h : ∀ n, n ∈ a ↔ n ∈ b) : a = b :=
  List.Perm.eq_of_pairwise (fun a b _ _ h1 h2 => by omega) ha hb ((List.perm_ext_iff_of_nodup (ha.imp (fun h => by omega)) (hb.imp (fun h => by omega))).2 h)
theorem nums_ext {a b : List Nat} (ha : Fit a) (hb : Fit b) : nums a = nums b ↔ ∀ n, has a n = has b n := by
  constructor
  · intro h n
    rw [Bool.eq_iff_iff, ← mem_nums ha, ← mem_nums hb, h]
  · intro h
    exact sorted_ext (nums_sorted ha) (nums_sorted hb) fun n => by rw [mem_nums ha, mem_nums hb, h]
/-- cut behind the last word that is not 0 -/
def trimW (ws : List Nat) : List Nat := (ws.reverse.dropWhile (· == 0)).reverse
theorem trimW_snoc (ws : List Nat) (x : Nat) : trimW (ws ++ [x]) = if x = 0 then trimW ws else ws ++ [x] := by
  unfold trimW
  rw [List.reverse_append, List.reverse_singleton, List.singleton_append]
  by_cases h : x = 0
  · rw [if_pos h, List.dropWhile_cons_of_pos (by simp [h])]
  · rw [if_neg h, List.dropWhile_cons_of_neg (by simp [h])]
    simp
theorem snoc_cases {α : Type} (p : List α → Prop) (h0 : p []) (h1 : ∀ l x, p l → p (l ++ [x])) (l : List α) : p l := by
  have : ∀ l : List α, p l.reverse := by
    intro l
    induction l with
    | nil => exact h0
    | cons x l ih => rw [List.reverse_cons]; exact h1 _ _ ih
  have h := this l.reverse
  rwa [List.reverse_reverse] at h
theorem trimW_canon (ws : List Nat) : canon (trimW ws) := by
  refine snoc_cases (fun l => canon (trimW l)) (by intro x h; simp [trimW] at h) (fun l x ih => ?_) ws
  show canon (trimW (l ++ [x]))
  rw [trimW_snoc]
  split
  · exact ih
  · rename_i hx
    intro y hy
    simp at hy
    subst hy
    exact hx
theorem trimW_wat (ws : List Nat) : ∀ i, wat (trimW ws) i = wat ws i := by
  refine snoc_cases (fun l => ∀ i, wat (trimW l) i = wat l i) (fun i => rfl) (fun l x ih i => ?_) ws
  rw [trimW_snoc]
  split
  · rename_i hx
    rw [ih]
    subst hx
    unfold wat
    rcases Nat.lt_trichotomy i l.length with h | h | h
    · rw [List.getElem?_append_left h]
    · subst h; simp
    · rw [List.getElem?_eq_none (by omega), List.getElem?_eq_none (by simp; omega)]
  · rfl
theorem trimW_has (ws : List Nat) (n : Nat) : has (trimW ws) n = has ws n := by unfold has; rw [trimW_wat]
theorem trimW_prefix (ws : List Nat) : trimW ws = ws.take (trimW ws).length := by
  refine snoc_cases (fun l => trimW l = l.take (trimW l).length) rfl (fun l x ih => ?_) ws
  rw [trimW_snoc]
  split
  · have : (trimW l).length ≤ l.length := by rw [ih, List.length_take]; omega
    rw [List.take_append_of_le_length this]
    exact ih
  · rw [List.take_length]
theorem trimW_len (ws : List Nat) : (trimW ws).length ≤ ws.length := by
  have h := congrArg List.length (trimW_prefix ws)
  rw [List.length_take] at h
  omega
theorem trimW_fit {ws : List Nat} (hf : Fit ws) : Fit (trimW ws) := by
  intro x hx
  rw [trimW_prefix] at hx
  exact hf x (List.mem_of_mem_take hx)
theorem canon_trim {ws : List Nat} (h : canon ws) : trimW ws = ws := by
  revert h
  refine snoc_cases (fun l => canon l → trimW l = l) (fun _ => rfl) (fun l x _ hc => ?_) ws
  rw [trimW_snoc, if_neg (hc x (by simp))]
end Go.Proofs.YtkiklbngfocljaaDoor
