/- What stands between tokens, and behind them; which texts are words (plain). -/
import Derived.Test.YtlianjnmfgakkaaDoorLxR
import Derived.Lib.SlTrimSet
import Derived.Lib.IndexAny
namespace Go.Proofs.YtlianjnmfgakkaaDoor

theorem list_at {u : ByteArray} {j : Nat} {b : UInt8} (h : u.data.toList[j]? = some b) : j < u.size ∧ byt u j = b.toNat := by
  rw [Array.getElem?_toList] at h
  obtain ⟨hj, hb⟩ := Array.getElem?_eq_some_iff.1 h
  have hj' : j < u.size := hj
  refine ⟨hj', ?_⟩
  unfold byt
  rw [get_lt hj', ← hb]
  rfl
theorem list_len (u : ByteArray) : u.data.toList.length = u.size := by rw [Array.length_toList]; rfl
theorem cs_contains (b : UInt8) : ([32, 9] : List UInt8).contains b = blankB b.toNat := by
  have h1 : (b == 32) = decide (b.toNat = 32) := by
    rw [Bool.eq_iff_iff, beq_iff_eq, decide_eq_true_iff]
    exact ⟨fun h => by rw [h]; rfl, fun h => UInt8.toNat_inj.1 h⟩
  have h2 : (b == 9) = decide (b.toNat = 9) := by
    rw [Bool.eq_iff_iff, beq_iff_eq, decide_eq_true_iff]
    exact ⟨fun h => by rw [h]; rfl, fun h => UInt8.toNat_inj.1 h⟩
  simp only [List.contains_cons, List.contains_nil, Bool.or_false, blankB, h1, h2]
theorem stp_blank (s : ByteArray) : ∀ p, p ≤ s.size → ∀ i, p ≤ i → i < stp s blankB p → blankB (byt s i) = true := by
  refine rune_ind s (fun p hp _ i h1 h2 => by rw [stp_end hp] at h2; omega) (fun p hp ih _ i h1 h2 => ?_)
  cases hg : (okR s p && blankB (rune s p)) with
  | false => rw [stp_out hg] at h2; omega
  | true =>
    have hg' := hg
    rw [Bool.and_eq_true] at hg'
    have hs : byt s p < 128 := by
      rcases Nat.lt_or_ge (byt s p) 128 with h | h
      · exact h
      · have := rune_large (s := s) (p := p) (by show ¬ byt s p < 128; omega)
        rw [blank_large _ this] at hg'
        cases hg'.2
    obtain ⟨r1, r2, r3⟩ := rune_small (s := s) (p := p) hs
    rw [stp_go hp hg'.1 hg'.2, r2] at h2
    rw [r2] at ih
    by_cases hi : i = p
    · rw [hi, ← show (s.get! p).toNat = byt s p from rfl, ← r1]
      exact hg'.2
    · exact ih (by omega) i (by omega) h2
theorem rune_ten {s : ByteArray} {p i : Nat} (hi : i < width s p) (hb : byt s (p + i) = 10) : rune s p = 10 := by
  by_cases hs : byt s p < 128
  · obtain ⟨r1, r2, r3⟩ := rune_small (s := s) (p := p) hs
    rw [r2] at hi
    obtain rfl : i = 0 := by omega
    rw [r1]
    exact hb
  · exfalso
    have a0 : i = 0 → byt s p = 10 := fun h => by rw [h] at hb; exact hb
    have a1 : i = 1 → (s.get! (p + 1)).toNat = 10 := fun h => by rw [h] at hb; exact hb
    have a2 : i = 2 → (s.get! (p + 2)).toNat = 10 := fun h => by rw [h] at hb; exact hb
    have a3 : i = 3 → (s.get! (p + 3)).toNat = 10 := fun h => by rw [h] at hb; exact hb
    revert hi
    unfold width
    rw [Lib.decode_at, show (s.get! p).toNat = byt s p from rfl]
    generalize s.size - p = n
    generalize byt s p = b0 at *
    generalize (s.get! (p + 1)).toNat = b1 at *
    generalize (s.get! (p + 2)).toNat = b2 at *
    generalize (s.get! (p + 3)).toNat = b3 at *
    unfold Lib.decodeN
    rw [if_neg hs]
    repeat' split
    all_goals (simp only; omega)
theorem stp_rem (s : ByteArray) : ∀ p, p ≤ s.size → ∀ i, p ≤ i → i < stp s remB p → byt s i ≠ 10 := by
  refine rune_ind s (fun p hp _ i h1 h2 => by rw [stp_end hp] at h2; omega) (fun p hp ih _ i h1 h2 => ?_)
  cases hg : (okR s p && remB (rune s p)) with
  | false => rw [stp_out hg] at h2; omega
  | true =>
    have hg' := hg
    rw [Bool.and_eq_true] at hg'
    rw [stp_go hp hg'.1 hg'.2] at h2
    by_cases hi : i < p + width s p
    · intro hb
      have := rune_ten (s := s) (p := p) (i := i - p) (by omega) (by rw [show p + (i - p) = i by omega]; exact hb)
      rw [this] at hg'
      cases hg'.2
    · exact ih (width_in hp) i (by omega) h2
theorem skip_how {s : ByteArray} {p q : Nat} (h : skipN s p = (q, true)) : q = stp s blankB p ∨ (stp s blankB p < s.size ∧ byt s (stp s blankB p) = 35 ∧ q = stp s remB (stp s blankB p) ∧ (q = s.size ∨ byt s q = 10)) := by
  unfold skipN at h
  split at h
  · rename_i hc
    injection h with h1 h2
    rw [Bool.or_eq_true, decide_eq_true_iff, decide_eq_true_iff] at h2
    rw [h1] at h2
    exact .inr ⟨hc.1, hc.2, h1.symm, h2⟩
  · injection h with h1
    exact .inl h1.symm
def tlS (u : ByteArray) : ByteArray := ⟨(Lib.trimLeftS u.data.toList (⟨#[32, 9]⟩ : ByteArray).data.toList).toArray⟩
def tmS (u : ByteArray) : ByteArray := ⟨(Lib.trimS u.data.toList (⟨#[32, 9]⟩ : ByteArray).data.toList).toArray⟩
theorem left_blank {u : ByteArray} (h : ∀ i, i < u.size → blankB (byt u i) = true) : Lib.trimLeftS u.data.toList (⟨#[32, 9]⟩ : ByteArray).data.toList = [] := by
  have := Lib.trimLeftS_drop u.data.toList [32, 9] u.data.toList.length (Nat.le_refl _) (fun j b hj hb => by rw [cs_contains, ← (list_at hb).2]; exact h j (list_at hb).1) (fun b hb => by rw [List.getElem?_eq_none (Nat.le_refl _)] at hb; cases hb)
  rw [List.drop_length] at this
  exact this
theorem trim_blank {u : ByteArray} (h : ∀ i, i < u.size → blankB (byt u i) = true) : tmS u = ⟨#[]⟩ := by
  have : Lib.trimRightS u.data.toList [32, 9] = [] := by
    have := Lib.trimRightS_take u.data.toList [32, 9] 0 (Nat.zero_le _) (fun j b hj hb => by rw [cs_contains, ← (list_at hb).2]; exact h j (list_at hb).1) (fun b hb => absurd hb (by decide))
    rw [List.take_zero] at this
    exact this
  unfold tmS Lib.trimS
  rw [show (⟨#[32, 9]⟩ : ByteArray).data.toList = [32, 9] from rfl, this]
  rfl
theorem tl_blank {u : ByteArray} (h : ∀ i, i < u.size → blankB (byt u i) = true) : tlS u = ⟨#[]⟩ := by
  unfold tlS
  rw [left_blank h]
theorem left_at {u : ByteArray} {k : Nat} (hk : k < u.size) (h1 : ∀ i, i < k → blankB (byt u i) = true) (h2 : byt u k = 35) : Lib.trimLeftS u.data.toList (⟨#[32, 9]⟩ : ByteArray).data.toList = 35 :: u.data.toList.drop (k + 1) := by
  have hl := list_len u
  have := Lib.trimLeftS_drop u.data.toList [32, 9] k (by omega) (fun j b hj hb => by rw [cs_contains, ← (list_at hb).2]; exact h1 j hj) (fun b hb => by rw [cs_contains, ← (list_at hb).2, h2]; rfl)
  rw [show (⟨#[32, 9]⟩ : ByteArray).data.toList = [32, 9] from rfl, this, List.drop_eq_getElem_cons (by omega)]
  congr 1
  have h3 := (list_at (List.getElem?_eq_getElem (show k < u.data.toList.length by omega))).2
  rw [h2] at h3
  exact UInt8.toNat_inj.1 h3.symm
theorem tl_at {u : ByteArray} {k : Nat} (hk : k < u.size) (h1 : ∀ i, i < k → blankB (byt u i) = true) (h2 : byt u k = 35) : (tlS u).data.toList = 35 :: u.data.toList.drop (k + 1) := by
  unfold tlS
  rw [left_at hk h1 h2]
theorem tl_prefix {u : ByteArray} {k : Nat} (hk : k < u.size) (h1 : ∀ i, i < k → blankB (byt u i) = true) (h2 : byt u k = 35) : Lib.hasPrefix (tlS u).data.toList (⟨#[35]⟩ : ByteArray).data.toList = true := by
  rw [tl_at hk h1 h2]
  unfold Lib.hasPrefix
  rfl
theorem tl_first {u : ByteArray} {k : Nat} (hk : k < u.size) (h1 : ∀ i, i < k → blankB (byt u i) = true) (h2 : byt u k = 35) : 0 < (tlS u).size ∧ ∀ h, ((tlS u)[0]'h).toNat = 35 := by
  have h3 := tl_at hk h1 h2
  have hz : 0 < (tlS u).size := by rw [← list_len, h3, List.length_cons]; omega
  refine ⟨hz, fun h => ?_⟩
  have h4 := (list_at (u := tlS u) (j := 0) (b := 35) (by rw [h3]; rfl)).2
  unfold byt at h4
  rw [get_lt hz] at h4
  exact h4
theorem tl_none {u : ByteArray} {k : Nat} (hk : k < u.size) (h1 : ∀ i, i < k → blankB (byt u i) = true) (h2 : byt u k = 35) (h3 : ∀ i, k ≤ i → i < u.size → byt u i ≠ 10) : decide (0 ≤ Lib.indexByte (tlS u).data.toList 10) = false := by
  rw [← Lib.contains_iff_indexByte, tl_at hk h1 h2]
  cases hc : (35 :: u.data.toList.drop (k + 1)).contains (10 : UInt8) with
  | false => rfl
  | true =>
    exfalso
    rw [List.contains_iff_mem, List.mem_cons] at hc
    rcases hc with hc | hc
    · exact absurd hc (by decide)
    · obtain ⟨i, hi⟩ := List.getElem?_of_mem hc
      rw [List.getElem?_drop] at hi
      obtain ⟨g1, g2⟩ := list_at hi
      exact h3 _ (by omega) g1 g2
/-- which texts are words -/
theorem word_is {u : ByteArray} (h0 : 0 < u.size) (h24 : u.size ≤ 24) : wordB u = (!digZ (byt u 0 : Int) && decide (stp u eitherB 0 = u.size)) := by
  rw [← word_lex (by omega) h24, whileN_stp]
  unfold byt
  rw [get_lt h0]
theorem word_large {u : ByteArray} (h24 : ¬ u.size ≤ 24) : wordB u = false := by
  unfold wordB
  rw [decide_eq_false h24, Bool.and_false, Bool.false_and]
theorem word_one {c : UInt8} (h : c.toNat < 128) (hc : eitherB c.toNat = false) : wordB ⟨#[c]⟩ = false := by
  rw [word_is (by show 0 < 1; decide) (by show 1 ≤ 24; decide)]
  have hb : byt (⟨#[c]⟩ : ByteArray) 0 = c.toNat := rfl
  obtain ⟨r1, r2, r3⟩ := rune_small (s := ⟨#[c]⟩) (p := 0) h
  have : stp (⟨#[c]⟩ : ByteArray) eitherB 0 = 0 := stp_out (by rw [r1, show ((⟨#[c]⟩ : ByteArray).get! 0).toNat = c.toNat from rfl, hc, Bool.and_false])
  rw [this, show decide ((0 : Nat) = (⟨#[c]⟩ : ByteArray).size) = false from rfl, Bool.and_false]
theorem TokOK.word {x : Tok} (h : TokOK x) : decide (x.kind = 1) = wordB x.text := by
  have hp := h.pos
  rcases h.kind with ⟨k1, k2, k3⟩ | ⟨k1, k2⟩ | ⟨k1, k2, k3, k4, k5⟩ | ⟨k1, k2, k3, k4⟩
  · rw [k1, k2, word_one (by decide) rfl]
    rfl
  · rw [k1]
    rcases k2 with k2 | k2 <;> (rw [k2, word_one (by decide) rfl]; rfl)
  · rw [k1]
    by_cases h24 : x.text.size ≤ 24
    · rw [word_is hp h24, k2]
      rfl
    · rw [word_large h24]
      rfl
  · rw [k1, word_is hp k4, k2, decide_eq_true k3]
    rfl
theorem TokOK.feed {x : Tok} (h : TokOK x) : decide (x.kind = 4) = decide (x.text = ⟨#[10]⟩) := by
  have hp := h.pos
  rw [decide_eq_decide]
  rcases h.kind with ⟨k1, k2, k3⟩ | ⟨k1, k2⟩ | ⟨k1, k2, k3, k4, k5⟩ | ⟨k1, k2, k3, k4⟩
  · exact ⟨fun _ => k2, fun _ => k1⟩
  · rw [k1]
    refine ⟨fun h => (by cases h), fun h => ?_⟩
    rcases k2 with k2 | k2 <;> (rw [k2] at h; exact absurd h (by decide))
  · rw [k1]
    refine ⟨fun h => (by cases h), fun h => ?_⟩
    rw [h] at k2
    exact absurd k2 (by decide)
  · refine ⟨fun h => (by rw [k1] at h; cases h), fun he => ?_⟩
    have := (h.first.2.2 k1).1
    rw [he] at this
    exact absurd rfl this
theorem TokOK.five {x : Tok} (h : TokOK x) : x.kind ≠ 5 := by
  rcases h.kind with ⟨k, _⟩ | ⟨k, _⟩ | ⟨k, _⟩ | ⟨k, _⟩ <;> (rw [k]; decide)
/-- the next of the tokens that are gathered -/
theorem run_cons {s : ByteArray} {p : Nat} (hp : p ≤ s.size) (h0 : (runN s p).2.2 = 0) {x : Tok} {l : List Tok} (h : (runN s p).1 = x :: l) : ∃ q e, TokAt s p q e x ∧ (runN s e).1 = l ∧ (runN s e).2.2 = 0 := by
  by_cases g0 : (nextN s p).2.2 = 0
  · by_cases g5 : (nextN s p).1.kind = 5
    · rw [run_stop hp g0 g5] at h; cases h
    · have ht := next_tok hp g0 g5
      rw [run_more hp g0 g5] at h h0
      by_cases r0 : (runN s (nextN s p).2.1).2.2 = 0
      · rw [if_pos r0] at h
        injection h with h1 h2
        rw [h1] at ht
        exact ⟨_, _, ht, h2, r0⟩
      · rw [if_neg r0] at h; cases h
  · rw [run_err hp g0] at h; cases h
theorem run_done {s : ByteArray} {p : Nat} (hp : p ≤ s.size) (h0 : (runN s p).2.2 = 0) (h : (runN s p).1 = []) : skipN s p = (s.size, true) := by
  have hle := skip_le s p hp
  by_cases g0 : (nextN s p).2.2 = 0
  · by_cases g5 : (nextN s p).1.kind = 5
    · unfold nextN at g0 g5
      obtain ⟨a, ha⟩ : ∃ a, a = skipN s p := ⟨_, rfl⟩
      rw [← ha] at g0 g5 hle ⊢
      obtain ⟨q, f⟩ := a
      simp only at g0 g5 hle
      by_cases h1 : f = false
      · rw [if_pos h1] at g0; cases g0
      · have hf : f = true := by simpa using h1
        rw [if_neg h1] at g5
        by_cases h2 : ¬ q < s.size
        · rw [hf, show q = s.size by omega]
        · rw [if_neg h2] at g5
          exfalso
          revert g5
          repeat' split
          all_goals (intro g5; exact absurd g5 (by first | (show ¬ (0 : Int) = 5; decide) | (show ¬ (1 : Int) = 5; decide) | (show ¬ (2 : Int) = 5; decide) | (show ¬ (3 : Int) = 5; decide) | (show ¬ (4 : Int) = 5; decide)))
    · rw [run_more hp g0 g5] at h h0
      by_cases r0 : (runN s (nextN s p).2.1).2.2 = 0
      · rw [if_pos r0] at h; cases h
      · rw [if_neg r0] at h0; exact absurd h0 r0
  · rw [run_err hp g0] at h0; exact absurd h0 g0
/-- what is between: blanks alone, or a remark ahead of a line feed -/
theorem gap_how {s : ByteArray} {p q e : Nat} {x : Tok} (h : TokAt s p q e x) (hp : p ≤ s.size) : tmS (s.extract p q) = ⟨#[]⟩ ∨ (x.kind = 4 ∧ Lib.hasPrefix (tlS (s.extract p q)).data.toList (⟨#[35]⟩ : ByteArray).data.toList = true) := by
  have h1 := h.lt
  have h2 := h.le
  have h3 := h.ge
  have z : (s.extract p q).size = q - p := by rw [ByteArray.size_extract]; omega
  rcases skip_how h.skip with hq | ⟨g1, g2, g3, g4⟩
  · refine .inl (trim_blank fun i hi => ?_)
    rw [byt_cut (by omega) (by omega)]
    exact stp_blank s p hp _ (by omega) (by omega)
  · have hg := stp_ge s blankB p
    have hr : stp s blankB p + 1 ≤ q := by
      obtain ⟨r1, r2, r3⟩ := rune_small (s := s) (p := stp s blankB p) (by show byt s _ < 128; omega)
      have h4 := stp_ge s remB (stp s blankB p + 1)
      have h5 := stp_go (G := remB) g1 r3 (by rw [r1, show (s.get! (stp s blankB p)).toNat = byt s (stp s blankB p) from rfl, g2]; rfl)
      rw [r2] at h5
      omega
    refine .inr ⟨?_, ?_⟩
    · have hb : byt s q = 10 := g4.resolve_left (by omega)
      rcases h.kind with ⟨k1, k2⟩ | ⟨k1, k2, k3⟩ | ⟨k1, k2, k3⟩ | ⟨k1, k2, k3⟩
      · exact k1
      · omega
      · have := dig_small k2
        omega
      · exact absurd hb k2
    · refine tl_prefix (k := stp s blankB p - p) (by omega) (fun i hi => ?_) ?_
      · rw [byt_cut (by omega) (by omega)]
        exact stp_blank s p hp _ (by omega) (by omega)
      · rw [byt_cut (by omega) (by omega), show p + (stp s blankB p - p) = stp s blankB p by omega]
        exact g2
/-- what is behind the last one -/
theorem rest_how {s : ByteArray} {p : Nat} (hp : p ≤ s.size) (h : skipN s p = (s.size, true)) : tlS (s.extract p s.size) = ⟨#[]⟩ ∨ ((0 < (tlS (s.extract p s.size)).size ∧ ∀ h, ((tlS (s.extract p s.size))[0]'h).toNat = 35) ∧ decide (0 ≤ Lib.indexByte (tlS (s.extract p s.size)).data.toList 10) = false) := by
  have z : (s.extract p s.size).size = s.size - p := by rw [ByteArray.size_extract]; omega
  rcases skip_how h with hq | ⟨g1, g2, g3, g4⟩
  · refine .inl (tl_blank fun i hi => ?_)
    rw [byt_cut (by omega) (by omega)]
    exact stp_blank s p hp _ (by omega) (by omega)
  · have hg := stp_ge s blankB p
    have hb1 : ∀ i, i < stp s blankB p - p → blankB (byt (s.extract p s.size) i) = true := fun i hi => by
      rw [byt_cut (by omega) (by omega)]
      exact stp_blank s p hp _ (by omega) (by omega)
    have hb2 : byt (s.extract p s.size) (stp s blankB p - p) = 35 := by
      rw [byt_cut (by omega) (by omega), show p + (stp s blankB p - p) = stp s blankB p by omega]
      exact g2
    refine .inr ⟨tl_first (k := stp s blankB p - p) (by omega) hb1 hb2, tl_none (k := stp s blankB p - p) (by omega) hb1 hb2 (fun i h1 h2 => ?_)⟩
    rw [byt_cut (by omega) (by omega)]
    exact stp_rem s _ (by omega) _ (show stp s blankB p ≤ p + i by omega) (by omega)
theorem glue_at {s : ByteArray} {p q e : Nat} {x : Tok} (h : TokAt s p q e x) (hg : x.glued = true) : q = p ∧ 0 < p := by
  have hgl : glueN s p q = true := by
    rcases h.kind with ⟨k1, k2, k3, k4⟩ | ⟨k1, k2, k3, k4⟩ | ⟨k1, k2, k3, k4, k5, k6⟩ | ⟨k1, k2, k3, k4, k5, k6, k7, k8⟩
    · rw [k4] at hg; cases hg
    · rw [← k4]; exact hg
    · rw [← k6]; exact hg
    · rw [← k8]; exact hg
  unfold glueN at hgl
  simp only [Bool.and_eq_true, decide_eq_true_eq] at hgl
  omega
end Go.Proofs.YtlianjnmfgakkaaDoor
