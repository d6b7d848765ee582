/- Texts, rune by rune, in plain Lean: where going on stops, and what that hangs on. -/
import Derived.Test.YtlianjnmfgakkaaDoorLexP
namespace Go.Proofs.YtlianjnmfgakkaaDoor

/-- the place where runes stop going on -/
def stpF (s : ByteArray) (G : Nat → Bool) : Nat → Nat → Nat
  | 0, p => p
  | n + 1, p => if decide (p < s.size) && (okR s p && G (rune s p)) then stpF s G n (p + width s p) else p
def stp (s : ByteArray) (G : Nat → Bool) (p : Nat) : Nat := stpF s G (s.size - p) p
theorem stpF_fuel (s : ByteArray) (G : Nat → Bool) : ∀ (n p : Nat), s.size - p ≤ n → stpF s G n p = stp s G p := by
  have key : ∀ (n m p : Nat), s.size - p ≤ n → s.size - p ≤ m → stpF s G n p = stpF s G m p := by
    intro n
    induction n with
    | zero =>
      intro m p h1 h2
      cases m with
      | zero => rfl
      | succ m =>
        unfold stpF
        rw [decide_eq_false (by omega), Bool.false_and, if_neg (by decide)]
    | succ n ih =>
      intro m p h1 h2
      cases m with
      | zero =>
        unfold stpF
        rw [decide_eq_false (by omega), Bool.false_and, if_neg (by decide)]
      | succ m =>
        unfold stpF
        have := width_pos s p
        by_cases h : p < s.size
        · rw [ih m (p + width s p) (by omega) (by omega)]
        · rw [decide_eq_false h, Bool.false_and, if_neg (by decide), if_neg (by decide)]
  intro n p h
  exact key n _ p h (Nat.le_refl _)
theorem stp_end {s : ByteArray} {G : Nat → Bool} {p : Nat} (h : ¬ p < s.size) : stp s G p = p := by
  unfold stp
  rw [show s.size - p = 0 by omega]
  rfl
theorem stp_go {s : ByteArray} {G : Nat → Bool} {p : Nat} (h : p < s.size) (h1 : okR s p = true) (h2 : G (rune s p) = true) : stp s G p = stp s G (p + width s p) := by
  have := width_pos s p
  rw [← stpF_fuel s G (s.size - p) (p + width s p) (by omega), ← stpF_fuel s G (s.size - p + 1) p (by omega)]
  conv => lhs; unfold stpF
  rw [decide_eq_true h, h1, h2, if_pos (by decide)]
theorem stp_out {s : ByteArray} {G : Nat → Bool} {p : Nat} (h : (okR s p && G (rune s p)) = false) : stp s G p = p := by
  rw [← stpF_fuel s G (s.size - p + 1) p (by omega)]
  unfold stpF
  rw [h, Bool.and_false, if_neg (by decide)]
/-- induction along the runes of a text -/
theorem rune_ind (s : ByteArray) {M : Nat → Prop} (hE : ∀ p, ¬ p < s.size → M p) (hS : ∀ p, p < s.size → M (p + width s p) → M p) : ∀ p, M p := by
  have key : ∀ n p, s.size - p ≤ n → M p := by
    intro n
    induction n with
    | zero => intro p h; exact hE p (by omega)
    | succ n ih =>
      intro p h
      by_cases hp : p < s.size
      · have := width_pos s p
        exact hS p hp (ih _ (by omega))
      · exact hE p hp
  exact fun p => key _ p (Nat.le_refl _)
theorem stp_ge (s : ByteArray) (G : Nat → Bool) : ∀ p, p ≤ stp s G p := by
  refine rune_ind s (fun p h => by rw [stp_end h]; exact Nat.le_refl _) (fun p h ih => ?_)
  by_cases hg : (okR s p && G (rune s p)) = true
  · rw [Bool.and_eq_true] at hg
    rw [stp_go h hg.1 hg.2]
    omega
  · rw [stp_out (by simpa using hg)]
    exact Nat.le_refl _
theorem stp_le (s : ByteArray) (G : Nat → Bool) : ∀ p, p ≤ s.size → stp s G p ≤ s.size := by
  refine rune_ind s (fun p h hp => by rw [stp_end h]; exact hp) (fun p h ih hp => ?_)
  by_cases hg : (okR s p && G (rune s p)) = true
  · rw [Bool.and_eq_true] at hg
    rw [stp_go h hg.1 hg.2]
    exact ih (width_in h)
  · rw [stp_out (by simpa using hg)]
    exact hp
/-- where it stops, nothing goes on -/
theorem stp_stop (s : ByteArray) (G : Nat → Bool) : ∀ p, stp s G p < s.size → (okR s (stp s G p) && G (rune s (stp s G p))) = false := by
  refine rune_ind s (fun p h h2 => by rw [stp_end h] at h2; exact absurd h2 h) (fun p h ih h2 => ?_)
  by_cases hg : (okR s p && G (rune s p)) = true
  · have hg2 := hg
    rw [Bool.and_eq_true] at hg2
    rw [stp_go h hg2.1 hg2.2] at h2 ⊢
    exact ih h2
  · rw [stp_out (by simpa using hg)]
    simpa using hg
theorem stp_self {s : ByteArray} {G : Nat → Bool} {p : Nat} : stp s G (stp s G p) = stp s G p := by
  by_cases h : stp s G p < s.size
  · exact stp_out (stp_stop s G p h)
  · exact stp_end h
theorem stp_eq_iff {s : ByteArray} {G : Nat → Bool} {p : Nat} (h : p < s.size) : stp s G p = p ↔ (okR s p && G (rune s p)) = false := by
  constructor
  · intro e
    cases hg : (okR s p && G (rune s p)) with
    | false => rfl
    | true =>
      rw [Bool.and_eq_true] at hg
      have h1 := stp_ge s G (p + width s p)
      have := width_pos s p
      rw [stp_go h hg.1 hg.2] at e
      omega
  · exact stp_out
/-- the rest of a text -/
theorem tail_rune_at (s : ByteArray) (i p : Nat) : rune (s.extract i s.size) p = rune s (i + p) ∧ width (s.extract i s.size) p = width s (i + p) ∧ okR (s.extract i s.size) p = okR s (i + p) := by
  unfold okR rune width
  rw [Lib.tail_decode s i p]
  exact ⟨rfl, rfl, rfl⟩
theorem whileN_unfold (s : ByteArray) (G : Nat → Bool) : ∀ p, (match (rns s p).find? (fun x => !(okR s x.1 && G x.2)) with | some x => x.1 | none => s.size) = if p < s.size then stp s G p else s.size := by
  refine rune_ind s (fun p h => by rw [rns_end h, if_neg h]; rfl) (fun p h ih => ?_)
  rw [rns_in h, if_pos h]
  cases hg : (okR s p && G (rune s p)) with
  | false =>
    rw [List.find?_cons_of_pos (by rw [hg]; rfl), stp_out hg]
  | true =>
    rw [List.find?_cons_of_neg (by rw [hg]; decide), ih]
    rw [Bool.and_eq_true] at hg
    rw [stp_go h hg.1 hg.2]
    by_cases h2 : p + width s p < s.size
    · rw [if_pos h2]
    · rw [if_neg h2, stp_end h2]
      have := width_in h
      omega
theorem whileN_stp (s : ByteArray) (G : Nat → Bool) : whileN s G = stp s G 0 := by
  have h := whileN_unfold s G 0
  unfold whileN
  refine Eq.trans h ?_
  by_cases h0 : 0 < s.size
  · rw [if_pos h0]
  · rw [if_neg h0, stp_end h0]
    omega
theorem stp_tail (s : ByteArray) (G : Nat → Bool) (i : Nat) (hi : i ≤ s.size) : ∀ p, i + stp (s.extract i s.size) G p = stp s G (i + p) := by
  have hz : (s.extract i s.size).size = s.size - i := by simp
  refine rune_ind (s.extract i s.size) (fun p h => ?_) (fun p h ih => ?_)
  · rw [stp_end h, stp_end (by omega)]
  · obtain ⟨e1, e2, e3⟩ := tail_rune_at s i p
    cases hg : (okR s (i + p) && G (rune s (i + p))) with
    | false => rw [stp_out (by rw [e1, e3]; exact hg), stp_out hg]
    | true =>
      rw [Bool.and_eq_true] at hg
      rw [stp_go h (by rw [e3]; exact hg.1) (by rw [e1]; exact hg.2), ih, stp_go (p := i + p) (by omega) hg.1 hg.2, e2, Nat.add_assoc]
/-- how many bytes of the rest go on -/
theorem while_tail (s : ByteArray) (G : Nat → Bool) (i : Nat) (hi : i ≤ s.size) : i + whileN (s.extract i s.size) G = stp s G i := by
  rw [whileN_stp, stp_tail s G i hi 0, Nat.add_zero]
/-- what hangs on a rune's byte, if that is small -/
theorem rune_small {s : ByteArray} {p : Nat} (hb : (s.get! p).toNat < 128) : rune s p = (s.get! p).toNat ∧ width s p = 1 ∧ okR s p = true := by
  have h : Utf8.decode s p = ((s.get! p).toNat, 1) := by
    rw [Lib.decode_at]
    unfold Lib.decodeN
    rw [if_pos hb]
  unfold okR rune width
  rw [h]
  refine ⟨rfl, rfl, ?_⟩
  rw [decide_eq_false (by simp only; omega)]
  rfl
theorem rune_large {s : ByteArray} {p : Nat} (hb : ¬ (s.get! p).toNat < 128) : 128 ≤ rune s p := by
  unfold rune
  rw [Lib.decode_at]
  unfold Lib.decodeN
  rw [if_neg hb]
  repeat' split
  all_goals (simp only; omega)
theorem rune_byte {s : ByteArray} {p b : Nat} (hb : b < 128) : rune s p = b ↔ (s.get! p).toNat = b := by
  by_cases h : (s.get! p).toNat < 128
  · rw [(rune_small h).1]
  · have := rune_large h
    omega
theorem get_nat {s : ByteArray} {p : Nat} (h : p < s.size) : (s.get! p).toNat = s[p].toNat := by rw [get_lt h]
/-- a rune hangs on its own bytes alone, if these are as many in another text -/
theorem decode_part {s t : ByteArray} {p q m : Nat} (hs : p + m ≤ s.size) (ht : q + m ≤ t.size) (hb : ∀ i, i < m → t.get! (q + i) = s.get! (p + i)) (hok : okR s p = true) (hw : width s p ≤ m) : rune t q = rune s p ∧ width t q = width s p ∧ okR t q = true := by
  have hd : Utf8.decode t q = Utf8.decode s p := by
    revert hok hw
    have a0 : 0 < m → (t.get! q).toNat = (s.get! p).toNat := fun h => congrArg UInt8.toNat (hb 0 h)
    have a1 : 1 < m → (t.get! (q + 1)).toNat = (s.get! (p + 1)).toNat := fun h => congrArg UInt8.toNat (hb 1 h)
    have a2 : 2 < m → (t.get! (q + 2)).toNat = (s.get! (p + 2)).toNat := fun h => congrArg UInt8.toNat (hb 2 h)
    have a3 : 3 < m → (t.get! (q + 3)).toNat = (s.get! (p + 3)).toNat := fun h => congrArg UInt8.toNat (hb 3 h)
    clear hb
    unfold okR rune width
    rw [Lib.decode_at, Lib.decode_at]
    have hn1 : m ≤ s.size - p := by omega
    have hn2 : m ≤ t.size - q := by omega
    generalize s.size - p = n1 at *
    generalize t.size - q = n2 at *
    clear hs ht
    generalize (s.get! p).toNat = b0 at *
    generalize (s.get! (p + 1)).toNat = b1 at *
    generalize (s.get! (p + 2)).toNat = b2 at *
    generalize (s.get! (p + 3)).toNat = b3 at *
    generalize (t.get! q).toNat = c0 at *
    generalize (t.get! (q + 1)).toNat = c1 at *
    generalize (t.get! (q + 2)).toNat = c2 at *
    generalize (t.get! (q + 3)).toNat = c3 at *
    intro hok hw
    have hm0 : 0 < m := by
      revert hw
      unfold Lib.decodeN
      repeat' split
      all_goals (simp only; omega)
    obtain rfl := a0 hm0
    unfold Lib.decodeN at hok hw ⊢
    by_cases g0 : c0 < 128
    · rw [if_pos g0, if_pos g0]
    rw [if_neg g0] at hok hw
    rw [if_neg g0, if_neg g0]
    by_cases g1 : c0 / 32 = 6 ∧ 1 < n1 ∧ b1 / 64 = 2
    · rw [if_pos g1] at hok hw
      by_cases k1 : c0 % 32 * 64 + b1 % 64 ≥ 128
      · rw [if_pos k1] at hw
        obtain rfl := a1 (by simp only at hw; omega)
        rw [if_pos g1, if_pos ⟨g1.1, by simp only at hw; omega, g1.2.2⟩]
      · rw [if_neg k1] at hok
        simp at hok
    rw [if_neg g1] at hok hw
    by_cases g2 : c0 / 16 = 14 ∧ (1 < n1 ∧ b1 / 64 = 2) ∧ 2 < n1 ∧ b2 / 64 = 2
    · rw [if_pos g2] at hok hw
      by_cases k1 : c0 % 16 * 4096 + b1 % 64 * 64 + b2 % 64 ≥ 2048 ∧ (c0 % 16 * 4096 + b1 % 64 * 64 + b2 % 64 < 55296 ∨ (57344 ≤ c0 % 16 * 4096 + b1 % 64 * 64 + b2 % 64 ∧ c0 % 16 * 4096 + b1 % 64 * 64 + b2 % 64 ≤ 1114111))
      · rw [if_pos k1] at hw
        simp only at hw
        obtain rfl := a1 (by omega)
        obtain rfl := a2 (by omega)
        rw [if_neg g1, if_pos g2, if_neg (by omega), if_pos ⟨g2.1, ⟨by omega, g2.2.1.2⟩, by omega, g2.2.2.2⟩]
      · rw [if_neg k1] at hok
        simp at hok
    rw [if_neg g2] at hok hw
    by_cases g3 : c0 / 8 = 30 ∧ (1 < n1 ∧ b1 / 64 = 2) ∧ (2 < n1 ∧ b2 / 64 = 2) ∧ 3 < n1 ∧ b3 / 64 = 2
    · rw [if_pos g3] at hok hw
      by_cases k1 : c0 % 8 * 262144 + b1 % 64 * 4096 + b2 % 64 * 64 + b3 % 64 ≥ 65536 ∧ (c0 % 8 * 262144 + b1 % 64 * 4096 + b2 % 64 * 64 + b3 % 64 < 55296 ∨ (57344 ≤ c0 % 8 * 262144 + b1 % 64 * 4096 + b2 % 64 * 64 + b3 % 64 ∧ c0 % 8 * 262144 + b1 % 64 * 4096 + b2 % 64 * 64 + b3 % 64 ≤ 1114111))
      · rw [if_pos k1] at hw
        simp only at hw
        obtain rfl := a1 (by omega)
        obtain rfl := a2 (by omega)
        obtain rfl := a3 (by omega)
        rw [if_neg g1, if_neg g2, if_pos g3, if_neg (by omega), if_neg (by omega), if_pos ⟨g3.1, ⟨by omega, g3.2.1.2⟩, ⟨by omega, g3.2.2.1.2⟩, by omega, g3.2.2.2.2⟩]
      · rw [if_neg k1] at hok
        simp at hok
    rw [if_neg g3] at hok
    simp at hok
  have e1 : rune t q = rune s p := congrArg Prod.fst hd
  have e2 : width t q = width s p := congrArg Prod.snd hd
  refine ⟨e1, e2, ?_⟩
  unfold okR at hok ⊢
  rw [e1, e2]
  exact hok
/-- what is behind a text changes no rune of it, if it begins with no byte that goes on -/
theorem decode_ahead {s t : ByteArray} {p q : Nat} (hp : p < s.size) (ht : q + (s.size - p) ≤ t.size) (hb : ∀ i, i < s.size - p → t.get! (q + i) = s.get! (p + i)) (hx : q + (s.size - p) < t.size → (t.get! (q + (s.size - p))).toNat < 128) : Utf8.decode t q = Utf8.decode s p := by
  rw [Lib.decode_at, Lib.decode_at]
  have a0 := congrArg UInt8.toNat (hb 0 (by omega))
  have a1 : 1 < s.size - p → (t.get! (q + 1)).toNat = (s.get! (p + 1)).toNat := fun h => congrArg UInt8.toNat (hb 1 h)
  have a2 : 2 < s.size - p → (t.get! (q + 2)).toNat = (s.get! (p + 2)).toNat := fun h => congrArg UInt8.toNat (hb 2 h)
  have a3 : 3 < s.size - p → (t.get! (q + 3)).toNat = (s.get! (p + 3)).toNat := fun h => congrArg UInt8.toNat (hb 3 h)
  have hn2 : s.size - p ≤ t.size - q := by omega
  have x1 : s.size - p = 1 → 1 < t.size - q → (t.get! (q + 1)).toNat < 128 := fun e h => by rw [e] at hx; exact hx (by omega)
  have x2 : s.size - p = 2 → 2 < t.size - q → (t.get! (q + 2)).toNat < 128 := fun e h => by rw [e] at hx; exact hx (by omega)
  have x3 : s.size - p = 3 → 3 < t.size - q → (t.get! (q + 3)).toNat < 128 := fun e h => by rw [e] at hx; exact hx (by omega)
  clear hb hx
  simp only [Nat.add_zero] at a0
  have hn1 : 0 < s.size - p := by omega
  generalize s.size - p = n1 at *
  generalize t.size - q = n2 at *
  clear ht hp
  generalize (s.get! p).toNat = b0 at *
  generalize (s.get! (p + 1)).toNat = b1 at *
  generalize (s.get! (p + 2)).toNat = b2 at *
  generalize (s.get! (p + 3)).toNat = b3 at *
  generalize (t.get! q).toNat = c0 at *
  generalize (t.get! (q + 1)).toNat = c1 at *
  generalize (t.get! (q + 2)).toNat = c2 at *
  generalize (t.get! (q + 3)).toNat = c3 at *
  subst a0
  have y1 : (1 < n2 ∧ c1 / 64 = 2) ↔ (1 < n1 ∧ b1 / 64 = 2) := by
    by_cases h : 1 < n1
    · have := a1 h; omega
    · have := x1 (by omega); omega
  have y2 : 1 < n1 → ((2 < n2 ∧ c2 / 64 = 2) ↔ (2 < n1 ∧ b2 / 64 = 2)) := by
    intro h1
    by_cases h : 2 < n1
    · have := a2 h; omega
    · have := x2 (by omega); omega
  have y3 : 2 < n1 → ((3 < n2 ∧ c3 / 64 = 2) ↔ (3 < n1 ∧ b3 / 64 = 2)) := by
    intro h1
    by_cases h : 3 < n1
    · have := a3 h; omega
    · have := x3 (by omega); omega
  by_cases z1 : 1 < n1 ∧ b1 / 64 = 2
  · have w1 := a1 z1.1
    subst w1
    replace y2 := y2 z1.1
    by_cases z2 : 2 < n1 ∧ b2 / 64 = 2
    · have w2 := a2 z2.1
      subst w2
      replace y3 := y3 z2.1
      by_cases z3 : 3 < n1 ∧ b3 / 64 = 2
      · have w3 := a3 z3.1
        subst w3
        unfold Lib.decodeN
        simp only [y1, y2, y3]
      · unfold Lib.decodeN
        simp only [y1, y2, y3, iff_false_intro z3, and_false, false_and, if_false]
    · unfold Lib.decodeN
      simp only [y1, y2, iff_false_intro z2, and_false, false_and, if_false]
  · unfold Lib.decodeN
    simp only [y1, iff_false_intro z1, and_false, false_and, if_false]
end Go.Proofs.YtlianjnmfgakkaaDoor
