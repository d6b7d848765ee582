/- The number of one bits of a word, as math/bits reckons it, in plain Lean. -/
import Derived.Test.YtkiklbngfocljaaDoorBitP
namespace Go.Proofs.YtkiklbngfocljaaDoor

def fs (w : Nat) : Nat → Nat → Nat
  | 0, _ => 0
  | n + 1, x => x % 2 ^ w + fs w n (x / 2 ^ w)
/-- every field is at most c -/
def fle (w c : Nat) : Nat → Nat → Prop
  | 0, _ => True
  | n + 1, x => x % 2 ^ w ≤ c ∧ fle w c n (x / 2 ^ w)
def msk (w : Nat) : Nat → Nat
  | 0 => 0
  | n + 1 => (2 ^ w - 1) + 2 ^ (w + w) * msk w n
theorem and_split (k lo hi mlo mhi : Nat) (h1 : lo < 2 ^ k) (h2 : mlo < 2 ^ k) : (lo + 2 ^ k * hi) &&& (mlo + 2 ^ k * mhi) = (lo &&& mlo) + 2 ^ k * (hi &&& mhi) := by
  have h3 : lo &&& mlo < 2 ^ k := Nat.and_lt_two_pow _ h2
  apply Nat.eq_of_testBit_eq
  intro i
  rw [Nat.testBit_and, Nat.add_comm lo, Nat.add_comm mlo, Nat.add_comm (lo &&& mlo), Nat.testBit_two_pow_mul_add _ h1, Nat.testBit_two_pow_mul_add _ h2, Nat.testBit_two_pow_mul_add _ h3]
  split
  · rw [Nat.testBit_and]
  · rw [Nat.testBit_and]
def stp (w n x : Nat) : Nat := ((x / 2 ^ w) &&& msk w n) + (x &&& msk w n)
theorem low_mask (w x : Nat) : x &&& (2 ^ w - 1) = x % 2 ^ w := Nat.and_two_pow_sub_one_eq_mod x w
theorem stp_succ (w n x : Nat) : stp w (n + 1) x = (x % 2 ^ w + x / 2 ^ w % 2 ^ w) + 2 ^ (w + w) * stp w n (x / 2 ^ (w + w)) := by
  have hp : 2 ^ (w + w) = 2 ^ w * 2 ^ w := Nat.pow_add 2 w w
  have hw : 0 < 2 ^ w := Nat.two_pow_pos w
  have hm : 2 ^ w - 1 < 2 ^ (w + w) := by rw [hp]; have := Nat.mul_le_mul_left (2 ^ w) hw; omega
  have e1 : ∀ y, y &&& msk w (n + 1) = y % 2 ^ w + 2 ^ (w + w) * ((y / 2 ^ (w + w)) &&& msk w n) := by
    intro y
    have h1 : y % 2 ^ (w + w) < 2 ^ (w + w) := Nat.mod_lt _ (Nat.two_pow_pos _)
    have h2 := and_split (w + w) (y % 2 ^ (w + w)) (y / 2 ^ (w + w)) (2 ^ w - 1) (msk w n) h1 hm
    rw [Nat.mod_add_div] at h2
    rw [msk, h2, low_mask, hp, Nat.mod_mul_right_mod]
  unfold stp
  rw [e1, e1 x]
  have e2 : x / 2 ^ w / 2 ^ (w + w) = x / 2 ^ (w + w) / 2 ^ w := by rw [Nat.div_div_eq_div_mul, Nat.div_div_eq_div_mul, Nat.mul_comm]
  rw [e2, Nat.mul_add]
  omega
theorem fs_two (w n x : Nat) : fs w (n + 1 + 1) x = (x % 2 ^ w + x / 2 ^ w % 2 ^ w) + fs w n (x / 2 ^ (w + w)) := by
  rw [fs, fs, Nat.pow_add, Nat.div_div_eq_div_mul]
  omega
theorem stp_field (w n x : Nat) (hw : 0 < w) : stp w (n + 1) x % 2 ^ (w + w) = x % 2 ^ w + x / 2 ^ w % 2 ^ w ∧ stp w (n + 1) x / 2 ^ (w + w) = stp w n (x / 2 ^ (w + w)) := by
  have hp : 2 ^ (w + w) = 2 ^ w * 2 ^ w := Nat.pow_add 2 w w
  have hw2 : 2 ≤ 2 ^ w := by
    have := Nat.pow_le_pow_right (n := 2) (by decide) hw
    simpa using this
  have h1 : x % 2 ^ w < 2 ^ w := Nat.mod_lt _ (Nat.two_pow_pos w)
  have h2 : x / 2 ^ w % 2 ^ w < 2 ^ w := Nat.mod_lt _ (Nat.two_pow_pos w)
  have h3 : x % 2 ^ w + x / 2 ^ w % 2 ^ w < 2 ^ (w + w) := by
    have := Nat.mul_le_mul_right (2 ^ w) hw2
    omega
  rw [stp_succ]
  constructor
  · rw [Nat.add_mul_mod_self_left, Nat.mod_eq_of_lt h3]
  · rw [Nat.add_mul_div_left _ _ (Nat.two_pow_pos _), Nat.div_eq_of_lt h3, Nat.zero_add]
theorem stp_fs (w : Nat) (hw : 0 < w) : ∀ n x, fs (w + w) n (stp w n x) = fs w (n + n) x
  | 0, x => rfl
  | n + 1, x => by
    obtain ⟨h1, h2⟩ := stp_field w n x hw
    rw [fs, h1, h2, stp_fs w hw n, show n + 1 + (n + 1) = (n + n) + 1 + 1 by omega, fs_two]
theorem stp_fle (w c : Nat) (hw : 0 < w) : ∀ n x, fle w c (n + n) x → fle (w + w) (c + c) n (stp w n x)
  | 0, x, _ => trivial
  | n + 1, x, h => by
    rw [show n + 1 + (n + 1) = (n + n) + 1 + 1 by omega, fle, fle] at h
    obtain ⟨h1, h2⟩ := stp_field w n x hw
    rw [fle, h1, h2]
    refine ⟨by omega, stp_fle w c hw n _ ?_⟩
    rw [Nat.pow_add, ← Nat.div_div_eq_div_mul]
    exact h.2.2
theorem fle_one : ∀ n x, fle 1 1 n x
  | 0, _ => trivial
  | n + 1, x => ⟨by omega, fle_one n _⟩
def st3 (n x : Nat) : Nat := (x / 16 + x) &&& msk 4 n
theorem st3_succ (n x : Nat) (h : fle 4 4 (n + 1 + (n + 1)) x) : st3 (n + 1) x = (x % 16 + x / 16 % 16) + 256 * st3 n (x / 256) := by
  have hm : (2 ^ 4 - 1) < 2 ^ 8 := by decide
  rw [show n + 1 + (n + 1) = (n + n) + 1 + 1 by omega, fle, fle] at h
  obtain ⟨h1, h2, h3⟩ := h
  have hb : x / 256 % 16 ≤ 4 ∨ n = 0 := by
    cases n with
    | zero => exact .inr rfl
    | succ n =>
      rw [show n + 1 + (n + 1) = (n + n) + 1 + 1 by omega, fle] at h3
      left
      have := h3.1
      rw [Nat.div_div_eq_div_mul] at this
      exact this
  simp only [Nat.reducePow] at h1 h2
  have key1 : n ≠ 0 → (x / 16 + x) / 256 = x / 256 / 16 + x / 256 := by
    intro h0
    rcases hb with hb | hb
    · clear h3
      have hc : x / 16 / 16 = x / 256 := Nat.div_div_eq_div_mul _ _ _
      obtain ⟨q, hq⟩ : ∃ q, q = x / 16 := ⟨_, rfl⟩
      obtain ⟨f, hf⟩ : ∃ f, f = x / 256 := ⟨_, rfl⟩
      obtain ⟨g, hg⟩ : ∃ g, g = f / 16 := ⟨_, rfl⟩
      rw [← hq] at hc h2
      rw [← hf] at hc hb
      have a1 : q = 16 * f + q % 16 := by omega
      have a2 : x = 16 * q + x % 16 := by omega
      have a3 : f = 16 * g + f % 16 := by omega
      rw [← hq, ← hf, ← hg]
      have a4 : q + x = 256 * (g + f) + (16 * (f % 16) + 17 * (q % 16) + x % 16) := by omega
      rw [a4, Nat.mul_add_div (by decide), Nat.div_eq_of_lt (by omega), Nat.add_zero]
    · exact absurd hb h0
  have key2 : (x / 16 + x) % 256 % 16 = x % 16 + x / 16 % 16 := by
    clear h3 hb key1
    omega
  unfold st3
  have hs := and_split 8 ((x / 16 + x) % 256) ((x / 16 + x) / 256) (2 ^ 4 - 1) (msk 4 n) (by omega) hm
  rw [show (x / 16 + x) % 256 + 2 ^ 8 * ((x / 16 + x) / 256) = x / 16 + x by omega, low_mask] at hs
  rw [show msk 4 (n + 1) = (2 ^ 4 - 1) + 2 ^ 8 * msk 4 n from rfl, hs]
  rw [show (2 : Nat) ^ 4 = 16 from rfl, key2, show (2 : Nat) ^ 8 = 256 from rfl]
  congr 2
  by_cases h0 : n = 0
  · subst h0
    simp [msk]
  · rw [key1 h0]
theorem st3_fs : ∀ n x, fle 4 4 (n + n) x → fs 8 n (st3 n x) = fs 4 (n + n) x ∧ fle 8 8 n (st3 n x)
  | 0, x, _ => ⟨rfl, trivial⟩
  | n + 1, x, h => by
    have hs := st3_succ n x h
    have h' := h
    rw [show n + 1 + (n + 1) = (n + n) + 1 + 1 by omega, fle, fle] at h'
    obtain ⟨h1, h2, h3⟩ := h'
    rw [Nat.div_div_eq_div_mul] at h3
    obtain ⟨i1, i2⟩ := st3_fs n (x / 256) h3
    simp only [Nat.reducePow] at h1 h2
    have e1 : st3 (n + 1) x % 2 ^ 8 = x % 16 + x / 16 % 16 := by rw [hs]; simp only [Nat.reducePow]; omega
    have e2 : st3 (n + 1) x / 2 ^ 8 = st3 n (x / 256) := by rw [hs]; simp only [Nat.reducePow]; omega
    rw [show n + 1 + (n + 1) = (n + n) + 1 + 1 by omega, fs_two, fs, e1, e2, i1, fle, e1, e2]
    exact ⟨rfl, by omega, i2⟩
theorem fs_bits : ∀ n x, fs 1 n x = ((List.range n).filter x.testBit).length
  | 0, x => rfl
  | n + 1, x => by
    have e : x.testBit ∘ Nat.succ = (x / 2 ^ 1).testBit := by funext i; simp [Nat.testBit_succ]
    rw [fs, fs_bits n (x / 2 ^ 1), List.range_succ_eq_map, List.filter_cons, List.filter_map, e]
    by_cases h : x % 2 = 1
    · rw [if_pos (by rw [Nat.testBit_zero]; simp [h]), List.length_cons, List.length_map]
      omega
    · rw [if_neg (by rw [Nat.testBit_zero]; simp [h]), List.length_map]
      omega
theorem popc (x : Nat) (hx : x < 18446744073709551616) (y1 y2 y3 : Nat) (h1 : y1 = ((x / 2) &&& 6148914691236517205) + (x &&& 6148914691236517205)) (h2 : y2 = ((y1 / 4) &&& 3689348814741910323) + (y1 &&& 3689348814741910323))
    (h3 : y3 = (y2 / 16 + y2) &&& 1085102592571150095) : fs 8 8 y3 = (bitsOf x).length ∧ fle 8 8 8 y3 := by
  have m1 : msk 1 32 = 6148914691236517205 := by decide +kernel
  have m2 : msk 2 16 = 3689348814741910323 := by decide +kernel
  have m3 : msk 4 8 = 1085102592571150095 := by decide +kernel
  have e1 : y1 = stp 1 32 x := by unfold stp; rw [m1]; exact h1
  have e2 : y2 = stp 2 16 y1 := by unfold stp; rw [m2]; exact h2
  have e3 : y3 = st3 8 y2 := by unfold st3; rw [m3]; exact h3
  have f1 := stp_fle 1 1 (by decide) 32 x (fle_one _ _)
  rw [← e1] at f1
  have f2 := stp_fle 2 2 (by decide) 16 y1 f1
  rw [← e2] at f2
  obtain ⟨g1, g2⟩ := st3_fs 8 y2 f2
  rw [← e3] at g1 g2
  refine ⟨?_, g2⟩
  rw [g1, e2, stp_fs 2 (by decide) 16, e1, stp_fs 1 (by decide) 32, fs_bits]
  rfl
theorem bytes_sum (y : Nat) (hy : y < 18446744073709551616) (hf : fle 8 8 8 y) (z zz u : Nat) (hz : z = y + y / 256) (hzz : zz = z + z / 65536) (hu : u = zz + zz / 4294967296) :
    u % 128 = fs 8 8 y ∧ z < 18446744073709551616 ∧ zz < 18446744073709551616 ∧ u < 9223372036854775808 := by
  obtain ⟨d1, e1⟩ : ∃ d, d = y / 256 := ⟨_, rfl⟩
  obtain ⟨d2, e2⟩ : ∃ d, d = d1 / 256 := ⟨_, rfl⟩
  obtain ⟨d3, e3⟩ : ∃ d, d = d2 / 256 := ⟨_, rfl⟩
  obtain ⟨d4, e4⟩ : ∃ d, d = d3 / 256 := ⟨_, rfl⟩
  obtain ⟨d5, e5⟩ : ∃ d, d = d4 / 256 := ⟨_, rfl⟩
  obtain ⟨d6, e6⟩ : ∃ d, d = d5 / 256 := ⟨_, rfl⟩
  obtain ⟨d7, e7⟩ : ∃ d, d = d6 / 256 := ⟨_, rfl⟩
  have hfs : fs 8 8 y = y % 256 + (d1 % 256 + (d2 % 256 + (d3 % 256 + (d4 % 256 + (d5 % 256 + (d6 % 256 + (d7 % 256 + 0))))))) := by
    rw [e7, e6, e5, e4, e3, e2, e1]
    rfl
  have hle : y % 256 ≤ 8 ∧ d1 % 256 ≤ 8 ∧ d2 % 256 ≤ 8 ∧ d3 % 256 ≤ 8 ∧ d4 % 256 ≤ 8 ∧ d5 % 256 ≤ 8 ∧ d6 % 256 ≤ 8 ∧ d7 % 256 ≤ 8 ∧ True := by
    rw [e7, e6, e5, e4, e3, e2, e1]
    exact hf
  obtain ⟨l0, l1, l2, l3, l4, l5, l6, l7, -⟩ := hle
  have h7 : d7 < 256 := by omega
  rw [hfs]
  rw [← e1] at hz
  clear hfs hf
  obtain ⟨c0, g0⟩ : ∃ c, c = y % 256 := ⟨_, rfl⟩
  obtain ⟨c1, g1⟩ : ∃ c, c = d1 % 256 := ⟨_, rfl⟩
  obtain ⟨c2, g2⟩ : ∃ c, c = d2 % 256 := ⟨_, rfl⟩
  obtain ⟨c3, g3⟩ : ∃ c, c = d3 % 256 := ⟨_, rfl⟩
  obtain ⟨c4, g4⟩ : ∃ c, c = d4 % 256 := ⟨_, rfl⟩
  obtain ⟨c5, g5⟩ : ∃ c, c = d5 % 256 := ⟨_, rfl⟩
  obtain ⟨c6, g6⟩ : ∃ c, c = d6 % 256 := ⟨_, rfl⟩
  obtain ⟨c7, g7⟩ : ∃ c, c = d7 % 256 := ⟨_, rfl⟩
  have q0 : y = c0 + 256 * d1 := by omega
  have q1 : d1 = c1 + 256 * d2 := by omega
  have q2 : d2 = c2 + 256 * d3 := by omega
  have q3 : d3 = c3 + 256 * d4 := by omega
  have q4 : d4 = c4 + 256 * d5 := by omega
  have q5 : d5 = c5 + 256 * d6 := by omega
  have q6 : d6 = c6 + 256 * d7 := by omega
  have q7 : d7 = c7 := by omega
  rw [← g0] at l0 ⊢
  rw [← g1] at l1 ⊢
  rw [← g2] at l2 ⊢
  rw [← g3] at l3 ⊢
  rw [← g4] at l4 ⊢
  rw [← g5] at l5 ⊢
  rw [← g6] at l6 ⊢
  rw [← g7] at l7 ⊢
  clear e1 e2 e3 e4 e5 e6 e7 g0 g1 g2 g3 g4 g5 g6 g7
  have k1 : z / 65536 = d2 + d3 := by
    have : z = 65536 * (d2 + d3) + ((c0 + c1) + 256 * (c1 + c2)) := by omega
    rw [this, Nat.mul_add_div (by decide), Nat.div_eq_of_lt (by omega), Nat.add_zero]
  rw [k1] at hzz
  have k2 : zz / 4294967296 = d4 + d5 + d6 + d7 := by
    have : zz = 4294967296 * (d4 + d5 + d6 + d7) + ((c0 + c1 + c2 + c3) + 256 * (c1 + c2 + c3 + c4) + 65536 * (c2 + c3 + c4 + c5) + 16777216 * (c3 + c4 + c5 + c6)) := by omega
    rw [this, Nat.mul_add_div (by decide), Nat.div_eq_of_lt (by omega), Nat.add_zero]
  rw [k2] at hu
  clear k1 k2
  have hu2 : u = (c0 + c1 + c2 + c3 + c4 + c5 + c6 + c7) + 128 * (2 * (d1 + d2 + d3 + d4 + d5 + d6 + d7)) := by omega
  refine ⟨?_, by omega, by omega, by omega⟩
  rw [hu2, Nat.add_mul_mod_self_left, Nat.mod_eq_of_lt (by omega)]
  omega
end Go.Proofs.YtkiklbngfocljaaDoor
