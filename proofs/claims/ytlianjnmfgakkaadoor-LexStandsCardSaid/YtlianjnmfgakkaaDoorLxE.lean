/- What the next token is, and where what is wrong is (plain). -/
import Derived.Test.YtlianjnmfgakkaaDoorLxN
namespace Go.Proofs.YtlianjnmfgakkaaDoor

/-- a token that may be: its place, its text, its kind -/
structure TokAt (s : ByteArray) (p q e : Nat) (t : Tok) : Prop where
  pl : t.pl = (q : Int)
  skip : skipN s p = (q, true)
  ge : p ≤ q
  lt : q < e
  le : e ≤ s.size
  text : t.text = s.extract q e
  kind : (t.kind = 4 ∧ byt s q = 10 ∧ e = q + 1 ∧ t.glued = false) ∨ (t.kind = 3 ∧ (byt s q = 46 ∨ byt s q = 45) ∧ e = q + 1 ∧ t.glued = glueN s p q) ∨
    (t.kind = 2 ∧ digZ (byt s q : Int) = true ∧ e = stp s digB q ∧ ¬ (byt s q = 48 ∧ q + 1 < e) ∧ fitB t.text = true ∧ t.glued = glueN s p q) ∨
    (t.kind = 1 ∧ byt s q ≠ 10 ∧ byt s q ≠ 46 ∧ byt s q ≠ 45 ∧ digZ (byt s q : Int) = false ∧ e = stp s eitherB q ∧ e ≤ q + 24 ∧ t.glued = glueN s p q)
theorem next_tok {s : ByteArray} {p : Nat} (hp : p ≤ s.size) (h0 : (nextN s p).2.2 = 0) (h5 : (nextN s p).1.kind ≠ 5) : TokAt s p (skipN s p).1 (nextN s p).2.1 (nextN s p).1 := by
  have hge := skip_ge s p
  have hle := skip_le s p hp
  unfold nextN at h0 h5 ⊢
  obtain ⟨a, ha⟩ : ∃ a, a = skipN s p := ⟨_, rfl⟩
  rw [← ha] at h0 h5 hge hle ⊢
  obtain ⟨q, f⟩ := a
  simp only at h0 h5 hge hle ⊢
  by_cases h1 : f = false
  · rw [if_pos h1] at h0; cases h0
  obtain rfl : f = true := by simpa using h1
  rw [if_neg (by decide)] at h0 h5 ⊢
  by_cases h2 : ¬ q < s.size
  · rw [if_pos h2] at h5; exact absurd rfl h5
  rw [if_neg h2] at h0 h5 ⊢
  replace h2 := Decidable.not_not.1 h2
  have g1 := stp_ge s digB q
  have g2 := stp_ge s eitherB q
  have g3 := stp_le s digB q hle
  have g4 := stp_le s eitherB q hle
  by_cases h3 : byt s q = 10
  · rw [if_pos h3]
    exact ⟨rfl, ha.symm, hge, Nat.lt_succ_self _, h2, rfl, .inl ⟨rfl, h3, rfl, rfl⟩⟩
  rw [if_neg h3] at h0 h5 ⊢
  by_cases h4 : byt s q = 46 ∨ byt s q = 45
  · rw [if_pos h4]
    exact ⟨rfl, ha.symm, hge, Nat.lt_succ_self _, h2, rfl, .inr (.inl ⟨rfl, h4, rfl, rfl⟩)⟩
  rw [if_neg h4] at h0 h5 ⊢
  by_cases h6 : digZ (byt s q : Int) = true
  · rw [if_pos h6] at h0 h5 ⊢
    have e1 := dig_go h2 h6
    have e2 := stp_ge s digB (q + 1)
    by_cases h7 : byt s q = 48 ∧ q + 1 < stp s digB q
    · rw [if_pos h7] at h0; cases h0
    rw [if_neg h7] at h0 h5 ⊢
    by_cases h8 : fitB (s.extract q (stp s digB q)) = true
    · rw [if_pos h8]
      exact ⟨rfl, ha.symm, hge, by simp only; omega, g3, rfl, .inr (.inr (.inl ⟨rfl, h6, rfl, h7, h8, rfl⟩))⟩
    · rw [if_neg h8] at h0; cases h0
  rw [if_neg h6] at h0 h5 ⊢
  by_cases h7 : stp s eitherB q = q
  · rw [if_pos h7] at h0; cases h0
  rw [if_neg h7] at h0 h5 ⊢
  by_cases h8 : q + 24 < stp s eitherB q
  · rw [if_pos h8] at h0; cases h0
  · rw [if_neg h8]
    exact ⟨rfl, ha.symm, hge, by simp only; omega, g4, rfl, .inr (.inr (.inr ⟨rfl, h3, fun h => h4 (.inl h), fun h => h4 (.inr h), by simpa using h6, rfl, by simp only; omega, rfl⟩))⟩
theorem lngF_lt (s : ByteArray) (a : Nat) : ∀ (n p : Nat), p ≤ a + 24 → a + 25 - p ≤ n → a + 24 < stp s eitherB p → stp s eitherB p ≤ s.size → lngF s a n p < s.size
  | 0, p, h1, h2, _, _ => by omega
  | n + 1, p, h1, h2, h3, h4 => by
    unfold lngF
    have hp : p < s.size := by
      rcases Nat.lt_or_ge p s.size with h | h
      · exact h
      · rw [stp_end (by omega)] at h3; omega
    have := width_pos s p
    by_cases hc : a + 24 < p + width s p
    · rw [if_pos hc]; exact hp
    · rw [if_neg hc]
      cases hg : (okR s p && eitherB (rune s p)) with
      | false => rw [stp_out hg] at h3; omega
      | true =>
        rw [Bool.and_eq_true] at hg
        rw [stp_go hp hg.1 hg.2] at h3 h4
        exact lngF_lt s a n _ (by omega) (by omega) h3 h4
theorem next_wrong {s : ByteArray} {p : Nat} (hp : p ≤ s.size) (h0 : (nextN s p).2.2 ≠ 0) : (nextN s p).2.1 < s.size := by
  have hle := skip_le s p hp
  have hsk : (skipN s p).2 = false → (skipN s p).1 < s.size := by
    intro h
    unfold skipN at h ⊢
    split at h
    · rename_i hc
      rw [if_pos hc]
      have := stp_le s remB _ (Nat.le_of_lt hc.1)
      simp only [Bool.or_eq_false_iff, decide_eq_false_iff_not] at h ⊢
      omega
    · cases h
  unfold nextN at h0 ⊢
  generalize skipN s p = a at *
  obtain ⟨q, f⟩ := a
  simp only at h0 hle hsk ⊢
  by_cases h1 : f = false
  · rw [if_pos h1]; exact hsk h1
  rw [if_neg h1] at h0 ⊢
  by_cases h2 : ¬ q < s.size
  · rw [if_pos h2] at h0; exact absurd rfl h0
  rw [if_neg h2] at h0 ⊢
  replace h2 := Decidable.not_not.1 h2
  have g3 := stp_le s digB q hle
  have g4 := stp_le s eitherB q hle
  by_cases h3 : byt s q = 10
  · rw [if_pos h3] at h0; exact absurd rfl h0
  rw [if_neg h3] at h0 ⊢
  by_cases h4 : byt s q = 46 ∨ byt s q = 45
  · rw [if_pos h4] at h0; exact absurd rfl h0
  rw [if_neg h4] at h0 ⊢
  by_cases h6 : digZ (byt s q : Int) = true
  · rw [if_pos h6] at h0 ⊢
    by_cases h7 : byt s q = 48 ∧ q + 1 < stp s digB q
    · rw [if_pos h7]; simp only; omega
    rw [if_neg h7] at h0 ⊢
    by_cases h8 : fitB (s.extract q (stp s digB q)) = true
    · rw [if_pos h8] at h0; exact absurd rfl h0
    · rw [if_neg h8]; exact h2
  rw [if_neg h6] at h0 ⊢
  by_cases h7 : stp s eitherB q = q
  · rw [if_pos h7]; exact h2
  rw [if_neg h7] at h0 ⊢
  by_cases h8 : q + 24 < stp s eitherB q
  · rw [if_pos h8]
    exact lngF_lt s q _ q (by omega) (Nat.le_refl _) h8 g4
  · rw [if_neg h8] at h0; exact absurd rfl h0
/-- induction along what is told of a text -/
theorem run_ind (s : ByteArray) {M : Nat → List Tok × Nat × Int → Prop} (hS : ∀ p, p ≤ s.size → (nextN s p).2.2 = 0 → (nextN s p).1.kind = 5 → M p ([], s.size, 0))
    (hE : ∀ p, p ≤ s.size → (nextN s p).2.2 ≠ 0 → M p ([], (nextN s p).2.1, (nextN s p).2.2))
    (hM : ∀ p, p ≤ s.size → (nextN s p).2.2 = 0 → TokAt s p (skipN s p).1 (nextN s p).2.1 (nextN s p).1 → M (nextN s p).2.1 (runN s (nextN s p).2.1) →
      M p (if (runN s (nextN s p).2.1).2.2 = 0 then ((nextN s p).1 :: (runN s (nextN s p).2.1).1, (runN s (nextN s p).2.1).2.1, 0) else ([], (runN s (nextN s p).2.1).2.1, (runN s (nextN s p).2.1).2.2))) :
    ∀ p, p ≤ s.size → M p (runN s p) := by
  have key : ∀ n p, p ≤ s.size → s.size - p ≤ n → M p (runN s p) := by
    intro n
    induction n with
    | zero =>
      intro p hp hn
      by_cases h0 : (nextN s p).2.2 = 0
      · by_cases h5 : (nextN s p).1.kind = 5
        · rw [run_stop hp h0 h5]; exact hS p hp h0 h5
        · have h := next_tok hp h0 h5
          have := h.ge; have := h.lt; have := h.le
          omega
      · rw [run_err hp h0]; exact hE p hp h0
    | succ n ih =>
      intro p hp hn
      by_cases h0 : (nextN s p).2.2 = 0
      · by_cases h5 : (nextN s p).1.kind = 5
        · rw [run_stop hp h0 h5]; exact hS p hp h0 h5
        · have h := next_tok hp h0 h5
          have h1 := h.ge
          have h2 := h.lt
          rw [run_more hp h0 h5]
          exact hM p hp h0 h (ih _ h.le (by omega))
      · rw [run_err hp h0]; exact hE p hp h0
  exact fun p hp => key _ p hp (Nat.le_refl _)
theorem run_wrong (s : ByteArray) : ∀ p, p ≤ s.size → ((runN s p).2.2 = 120 ∨ (runN s p).2.2 = 121 ∨ (runN s p).2.2 = 0) ∧ ((runN s p).2.2 = 0 → (runN s p).2.1 = s.size) ∧ ((runN s p).2.2 ≠ 0 → (runN s p).2.1 < s.size ∧ (runN s p).1 = []) := by
  refine run_ind s (M := fun p R => (R.2.2 = 120 ∨ R.2.2 = 121 ∨ R.2.2 = 0) ∧ (R.2.2 = 0 → R.2.1 = s.size) ∧ (R.2.2 ≠ 0 → R.2.1 < s.size ∧ R.1 = [])) (fun p hp h0 h5 => ⟨.inr (.inr rfl), fun _ => rfl, fun h => absurd rfl h⟩) (fun p hp h0 => ⟨(next_cases s p hp).1, fun h => absurd h h0, fun _ => ⟨next_wrong hp h0, rfl⟩⟩) (fun p hp h0 ht ih => ?_)
  obtain ⟨i1, i2, i3⟩ := ih
  split
  · rename_i h
    exact ⟨.inr (.inr rfl), fun _ => i2 h, fun h => absurd rfl h⟩
  · rename_i h
    exact ⟨i1, i2, fun h' => ⟨(i3 h').1, rfl⟩⟩
theorem run_pl (s : ByteArray) : ∀ p, p ≤ s.size → ∀ t ∈ (runN s p).1, 0 ≤ t.pl ∧ t.pl ≤ (s.size : Int) := by
  refine run_ind s (M := fun p R => ∀ t ∈ R.1, 0 ≤ t.pl ∧ t.pl ≤ (s.size : Int)) (fun p hp h0 h5 t ht => by cases ht) (fun p hp h0 t ht => by cases ht) (fun p hp h0 hk ih => ?_)
  split
  · intro t ht
    rcases List.mem_cons.1 ht with rfl | ht
    · have h1 := hk.pl
      have h2 := hk.lt
      have h3 := hk.le
      rw [h1]
      omega
    · exact ih t ht
  · intro t ht
    cases ht
end Go.Proofs.YtlianjnmfgakkaaDoor
