/- Sets of numbers: what the program's operations do to membership, in plain Lean. -/
import Derived.Test.YtkiklbngfocljaaDoorBitU
namespace Go.Proofs.YtkiklbngfocljaaDoor

def good (ws : List Nat) : Prop := canon ws ∧ ∀ n, has ws n = true → n < 10000
theorem good_nil : good [] := ⟨fun x h => (by cases h), fun n h => by simp [has, wat] at h⟩
theorem bitLen_top {x : Nat} (h0 : x ≠ 0) (hx : x < 18446744073709551616) : 1 ≤ Lib.bitLen x ∧ x.testBit (Lib.bitLen x - 1) = true ∧ ∀ i, x.testBit i = true → i < Lib.bitLen x := by
  obtain ⟨h1, h2, h3⟩ := Lib.bitLenAux_bounds 64 x hx h0
  have e : Lib.bitLenAux 64 x = Lib.bitLen x := rfl
  rw [e] at h1 h2 h3
  refine ⟨h1, ?_, fun i hi => ?_⟩
  · obtain ⟨i, hi1, hi2⟩ := Nat.exists_ge_and_testBit_of_ge_two_pow h2
    have hlt : i < Lib.bitLen x := by
      rcases Nat.lt_or_ge i (Lib.bitLen x) with h | h
      · exact h
      · rw [Nat.testBit_lt_two_pow (Nat.lt_of_lt_of_le h3 (Nat.pow_le_pow_right (by decide) h))] at hi2
        cases hi2
    rwa [show i = Lib.bitLen x - 1 by omega] at hi2
  · rcases Nat.lt_or_ge i (Lib.bitLen x) with h | h
    · exact h
    · rw [Nat.testBit_lt_two_pow (Nat.lt_of_lt_of_le h3 (Nat.pow_le_pow_right (by decide) h))] at hi
      cases hi
theorem last_snoc {ws : List Nat} {x : Nat} (h : ws.getLast? = some x) : 0 < ws.length ∧ ws[ws.length - 1]? = some x := by
  rw [List.getLast?_eq_getElem?] at h
  refine ⟨?_, h⟩
  rcases Nat.eq_zero_or_pos ws.length with h0 | h0
  · rw [List.getElem?_eq_none (by omega)] at h; cases h
  · exact h0
theorem chk_good {ws : List Nat} (hf : Fit ws) : chkW ws = 0 ↔ good ws := by
  cases hl : ws.getLast? with
  | none =>
    have : ws = [] := List.getLast?_eq_none_iff.1 hl
    subst this
    exact ⟨fun _ => good_nil, fun _ => rfl⟩
  | some x =>
    obtain ⟨h0, h1⟩ := last_snoc hl
    have hx := hf x (List.mem_of_getElem? h1)
    rw [chkW_last hl]
    constructor
    · intro h
      have hb : badW ws x = false := by
        cases hb : badW ws x with
        | false => rfl
        | true => rw [hb] at h; exact absurd h (by decide)
      unfold badW at hb
      simp only [Bool.or_eq_false_iff, decide_eq_false_iff_not] at hb
      obtain ⟨⟨h2, h3⟩, h4⟩ := hb
      refine ⟨fun y hy => by rw [hl] at hy; injection hy with hy; subst hy; exact h2, fun n hn => ?_⟩
      have hq : n / 64 < ws.length := by
        rcases Nat.lt_or_ge (n / 64) ws.length with h | h
        · exact h
        · rw [has_out h] at hn; cases hn
      rcases Nat.lt_or_ge (n / 64) (ws.length - 1) with h | h
      · omega
      · have hq2 : n / 64 = ws.length - 1 := by omega
        unfold has wat at hn
        rw [hq2, h1] at hn
        have := (bitLen_top h2 hx).2.2 _ hn
        omega
    · rintro ⟨hc, hlt⟩
      have h2 := hc x hl
      obtain ⟨b1, b2, b3⟩ := bitLen_top h2 hx
      have hb64 : Lib.bitLen x ≤ 64 := Lib.bitLen_le x 64 (by omega) (by omega)
      have h3 := hlt ((ws.length - 1) * 64 + (Lib.bitLen x - 1)) (by
        unfold has wat
        rw [show ((ws.length - 1) * 64 + (Lib.bitLen x - 1)) / 64 = ws.length - 1 by omega, show ((ws.length - 1) * 64 + (Lib.bitLen x - 1)) % 64 = Lib.bitLen x - 1 by omega, h1]
        exact b2)
      have hb : badW ws x = false := by
        unfold badW
        rw [decide_eq_false h2, decide_eq_false (by omega), decide_eq_false (by omega)]
        rfl
      rw [hb]
      rfl
theorem ofW_good {ws : List Nat} (hf : Fit ws) : good (ofW ws) := by
  unfold ofW
  split
  · rename_i h; exact (chk_good hf).1 h
  · exact good_nil
theorem ofW_id {ws : List Nat} (hf : Fit ws) (h : good ws) : ofW ws = ws := by unfold ofW; rw [if_pos ((chk_good hf).2 h)]
theorem good_trim {ws : List Nat} (h : ∀ n, has ws n = true → n < 10000) : good (trimW ws) := ⟨trimW_canon ws, fun n hn => h n (by rwa [trimW_has] at hn)⟩
theorem good_ext {a b : List Nat} (ha : Fit a) (hb : Fit b) (ga : good a) (gb : good b) (h : ∀ n, has a n = has b n) : a = b := canon_ext ha hb ga.1 gb.1 h
theorem padW_fit {ws : List Nat} (hf : Fit ws) (k : Nat) : Fit (padW ws k) := by
  intro x hx
  unfold padW at hx
  rcases List.mem_append.1 hx with h | h
  · exact hf x h
  · rw [List.eq_of_mem_replicate h]; decide
theorem has_turn (J : Nat → Nat → Nat) (ws : List Nat) (k n : Nat) : has (turnW J ws k) n = if n / 64 = k / 64 then (J (wat ws (k / 64)) (2 ^ (k % 64))).testBit (n % 64) else has ws n := by
  have hl := padW_length ws k
  unfold has turnW
  by_cases h : n / 64 = k / 64
  · rw [if_pos h, h]
    unfold wat
    rw [List.getElem?_set_self hl]
    rfl
  · rw [if_neg h]
    have : wat ((padW ws k).set (k / 64) (J (wat ws (k / 64)) (2 ^ (k % 64)))) (n / 64) = wat ws (n / 64) := by
      rw [← padW_wat ws k (n / 64)]
      unfold wat
      rw [List.getElem?_set_ne (Ne.symm h)]
    rw [this]
theorem has_with (ws : List Nat) (k n : Nat) : has (turnW (fun x y => x ||| y) ws k) n = (has ws n || decide (n = k)) := by
  rw [has_turn]
  by_cases h : n / 64 = k / 64
  · rw [if_pos h, Nat.testBit_or, Nat.testBit_two_pow]
    unfold has
    rw [h]
    congr 1
    rw [Bool.eq_iff_iff, decide_eq_true_iff, decide_eq_true_iff]
    omega
  · rw [if_neg h, decide_eq_false (by intro e; exact h (by rw [e])), Bool.or_false]
theorem minus_bit (x y i : Nat) (hy : y < 18446744073709551616) (hi : i < 64) : (minusN x y).testBit i = (x.testBit i && !y.testBit i) := by
  unfold minusN
  rw [Nat.testBit_and, show 18446744073709551615 - y = 2 ^ 64 - (y + 1) by omega, Nat.testBit_two_pow_sub_succ (by omega), decide_eq_true hi, Bool.true_and]
theorem has_without (ws : List Nat) (k n : Nat) : has (turnW minusN ws k) n = (has ws n && !decide (n = k)) := by
  have hk : k % 64 < 64 := Nat.mod_lt _ (by decide)
  have hp : 2 ^ (k % 64) < 18446744073709551616 := Nat.pow_lt_pow_right (by decide) hk
  rw [has_turn]
  by_cases h : n / 64 = k / 64
  · rw [if_pos h, minus_bit _ _ _ hp (Nat.mod_lt _ (by decide)), Nat.testBit_two_pow]
    unfold has
    rw [h]
    congr 2
    rw [Bool.eq_iff_iff, decide_eq_true_iff, decide_eq_true_iff]
    omega
  · rw [if_neg h, decide_eq_false (by intro e; exact h (by rw [e])), Bool.not_false, Bool.and_true]
theorem joinL_wat (J : Nat → Nat → Nat) (h0 : J 0 0 = 0) (a b : List Nat) (i : Nat) : wat (joinL J a b) i = J (wat a i) (wat b i) := by
  unfold joinL rowJ
  generalize hm : max a.length b.length = m
  by_cases h : i < m
  · unfold wat
    simp [List.getElem?_map, List.getElem?_range h, h]
  · have h1 : wat a i = 0 := by unfold wat; rw [List.getElem?_eq_none (by omega)]; rfl
    have h2 : wat b i = 0 := by unfold wat; rw [List.getElem?_eq_none (by omega)]; rfl
    rw [h1, h2, h0]
    unfold wat
    rw [List.getElem?_eq_none (by simp; omega)]
    rfl
theorem has_or (a b : List Nat) (n : Nat) : has (joinL (fun x y => x ||| y) a b) n = (has a n || has b n) := by
  unfold has
  rw [joinL_wat _ (by rfl), Nat.testBit_or]
theorem has_and (a b : List Nat) (n : Nat) : has (joinL (fun x y => x &&& y) a b) n = (has a n && has b n) := by
  unfold has
  rw [joinL_wat _ (by rfl), Nat.testBit_and]
theorem has_minus {a b : List Nat} (hb : Fit b) (n : Nat) : has (joinL minusN a b) n = (has a n && !has b n) := by
  unfold has
  rw [joinL_wat _ (by rfl), minus_bit _ _ _ (wat_fit hb _) (by omega)]
theorem joinL_fit {J : Nat → Nat → Nat} (hJ : ∀ x y, x < 18446744073709551616 → y < 18446744073709551616 → J x y < 18446744073709551616) {a b : List Nat} (ha : Fit a) (hb : Fit b) : Fit (joinL J a b) := rowJ_fit hJ ha hb _ _
/-- how many numbers a set has hangs on membership alone -/
theorem nums_perm {a : List Nat} (ha : Fit a) {l : List Nat} (hl : l.Nodup) (h : ∀ n, has a n = true ↔ n ∈ l) : (nums a).length = l.length := by
  refine ((List.perm_ext_iff_of_nodup ((nums_sorted ha).imp (fun h => by omega)) hl).2 fun n => ?_).length_eq
  rw [mem_nums ha, h]
theorem nums_nodup {a : List Nat} (ha : Fit a) : (nums a).Nodup := (nums_sorted ha).imp (fun h => by omega)
end Go.Proofs.YtkiklbngfocljaaDoor
