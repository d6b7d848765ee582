/- Plain words on wide numbers: five parts of 32 bits; sums and products part by part. -/
namespace Go.Proofs.Ytfkmbnlpdolemaa

def pw (k : Nat) : Int := 4294967296 ^ k
theorem pw_zero : pw 0 = 1 := rfl
theorem pw_succ (k : Nat) : pw (k + 1) = pw k * 4294967296 := by
  unfold pw
  exact Int.pow_succ _ _
theorem pw_add (a b : Nat) : pw (a + b) = pw a * pw b := by
  unfold pw
  exact Int.pow_add _ _ _
theorem pw_pos (k : Nat) : 0 < pw k := by
  unfold pw
  exact Int.pow_pos (by decide)
/-- what is left of a number from a part on -/
def rest (N : Int) (k : Nat) : Int := N / pw k
theorem rest_zero (N : Int) : rest N 0 = N := by
  unfold rest
  rw [pw_zero, Int.ediv_one]
theorem rest_succ (N : Int) (k : Nat) : rest N (k + 1) = rest N k / 4294967296 := by
  unfold rest
  rw [pw_succ, Int.ediv_ediv_of_nonneg (Int.le_of_lt (pw_pos k))]
/-- a part of a number -/
def lim (N : Int) (k : Nat) : Nat := (rest N k % 4294967296).toNat
theorem lim_lt (N : Int) (k : Nat) : lim N k < 4294967296 := by unfold lim; omega
theorem lim_eq (N : Int) (k : Nat) : (lim N k : Int) = rest N k % 4294967296 := by unfold lim; omega
theorem rest_step (N : Int) (k : Nat) : rest N k = 4294967296 * rest N (k + 1) + lim N k := by
  rw [rest_succ, lim_eq]
  omega
/-- what lies below a part -/
def low (N : Int) (k : Nat) : Int := N - rest N k * pw k
theorem low_zero (N : Int) : low N 0 = 0 := by
  unfold low
  rw [rest_zero, pw_zero]
  omega
theorem low_succ (N : Int) (k : Nat) : low N (k + 1) = low N k + lim N k * pw k := by
  have h1 := rest_step N k
  have h2 := pw_succ k
  unfold low
  rw [h2, h1]
  grind
theorem low_split (N : Int) (k : Nat) : N = low N k + rest N k * pw k := by
  unfold low
  omega

/-- the carry of a sum -/
def carry (N M : Int) (k : Nat) : Int := rest (N + M) k - rest N k - rest M k
theorem carry_zero (N M : Int) : carry N M 0 = 0 := by
  unfold carry
  rw [rest_zero, rest_zero, rest_zero]
  omega
theorem carry_step (N M : Int) (k : Nat) (h : 0 ≤ carry N M k ∧ carry N M k ≤ 1) :
    ((lim N k : Int) + lim M k + carry N M k) % 4294967296 = lim (N + M) k ∧ ((lim N k : Int) + lim M k + carry N M k) / 4294967296 = carry N M (k + 1) ∧ 0 ≤ carry N M (k + 1) ∧ carry N M (k + 1) ≤ 1 := by
  have h1 := rest_step N k
  have h2 := rest_step M k
  have h3 := rest_step (N + M) k
  have b1 := lim_lt N k
  have b2 := lim_lt M k
  have b3 := lim_lt (N + M) k
  unfold carry at *
  omega

/-- five parts together -/
def five (o : Nat → Int) : Int := o 0 + o 1 * 4294967296 + o 2 * 18446744073709551616 + o 3 * 79228162514264337593543950336 + o 4 * 340282366920938463463374607431768211456
theorem five_put (o : Nat → Int) (j : Nat) (hj : j < 5) (v : Int) : five (fun i => if i = j then v else o i) = five o + (v - o j) * pw j := by
  have p0 : pw 0 = 1 := rfl
  have p1 : pw 1 = 4294967296 := by decide
  have p2 : pw 2 = 18446744073709551616 := by decide
  have p3 : pw 3 = 79228162514264337593543950336 := by decide
  have p4 : pw 4 = 340282366920938463463374607431768211456 := by decide
  have : j = 0 ∨ j = 1 ∨ j = 2 ∨ j = 3 ∨ j = 4 := by omega
  rcases this with rfl | rfl | rfl | rfl | rfl <;> simp [five, p0, p1, p2, p3, p4] <;> grind
theorem five_lim {o : Nat → Int} {T q : Int} (h : five o = T + q * pw 5) (hb : ∀ j, j < 5 → 0 ≤ o j ∧ o j < 4294967296) : ∀ j, j < 5 → o j = lim T j := by
  have p5 : pw 5 = 1461501637330902918203684832716283019655932542976 := by decide
  rw [p5] at h
  unfold five at h
  have h0 := hb 0 (by omega)
  have h1 := hb 1 (by omega)
  have h2 := hb 2 (by omega)
  have h3 := hb 3 (by omega)
  have h4 := hb 4 (by omega)
  have r0 := rest_zero T
  have s0 : rest T 0 = 4294967296 * rest T 1 + lim T 0 := rest_step T 0
  have s1 : rest T 1 = 4294967296 * rest T 2 + lim T 1 := rest_step T 1
  have s2 : rest T 2 = 4294967296 * rest T 3 + lim T 2 := rest_step T 2
  have s3 : rest T 3 = 4294967296 * rest T 4 + lim T 3 := rest_step T 3
  have s4 : rest T 4 = 4294967296 * rest T 5 + lim T 4 := rest_step T 4
  have l0 := lim_lt T 0
  have l1 := lim_lt T 1
  have l2 := lim_lt T 2
  have l3 := lim_lt T 3
  have l4 := lim_lt T 4
  have e0 : o 0 = lim T 0 ∧ rest T 1 = o 1 + o 2 * 4294967296 + o 3 * 18446744073709551616 + o 4 * 79228162514264337593543950336 - q * 340282366920938463463374607431768211456 := by omega
  have e1 : o 1 = lim T 1 ∧ rest T 2 = o 2 + o 3 * 4294967296 + o 4 * 18446744073709551616 - q * 79228162514264337593543950336 := by omega
  have e2 : o 2 = lim T 2 ∧ rest T 3 = o 3 + o 4 * 4294967296 - q * 18446744073709551616 := by omega
  have e3 : o 3 = lim T 3 ∧ rest T 4 = o 4 - q * 4294967296 := by omega
  have e4 : o 4 = lim T 4 := by omega
  intro j hj
  have : j = 0 ∨ j = 1 ∨ j = 2 ∨ j = 3 ∨ j = 4 := by omega
  rcases this with rfl | rfl | rfl | rfl | rfl
  · exact e0.1
  · exact e1.1
  · exact e2.1
  · exact e3.1
  · exact e4
theorem five_of (T : Int) : five (fun j => lim T j) = T - rest T 5 * pw 5 := by
  have p5 : pw 5 = 1461501637330902918203684832716283019655932542976 := by decide
  have r0 := rest_zero T
  have s0 : rest T 0 = 4294967296 * rest T 1 + lim T 0 := rest_step T 0
  have s1 : rest T 1 = 4294967296 * rest T 2 + lim T 1 := rest_step T 1
  have s2 : rest T 2 = 4294967296 * rest T 3 + lim T 2 := rest_step T 2
  have s3 : rest T 3 = 4294967296 * rest T 4 + lim T 3 := rest_step T 3
  have s4 : rest T 4 = 4294967296 * rest T 5 + lim T 4 := rest_step T 4
  rw [p5]
  show (lim T 0 : Int) + lim T 1 * 4294967296 + lim T 2 * 18446744073709551616 + lim T 3 * 79228162514264337593543950336 + lim T 4 * 340282366920938463463374607431768211456 = _
  omega

/-- what a product under way stands for: the parts, and what is carried to part i + k -/
def MulAt (N M : Int) (i k : Nat) (o : Nat → Int) (c : Int) : Prop :=
  (∀ j, j < 5 → 0 ≤ o j ∧ o j < 4294967296) ∧ 0 ≤ c ∧ c ≤ 4294967296 ∧ ∃ q, five o + c * pw (i + k) = low N i * M + lim N i * pw i * low M k + q * pw 5
theorem mul_start {N M : Int} : MulAt N M 0 0 (fun _ => 0) 0 := by
  refine ⟨fun j _ => ⟨Int.le_refl 0, by show (0 : Int) < 4294967296; decide⟩, by omega, by omega, 0, ?_⟩
  rw [low_zero, low_zero]
  simp [five]
theorem mul_step {N M : Int} {i k : Nat} {o : Nat → Int} {c : Int} (h : MulAt N M i k o c) (hik : i + k < 5) :
    MulAt N M i (k + 1) (fun j => if j = i + k then (o (i + k) + (lim N i : Int) * lim M k % 4294967296 + c) % 4294967296 else o j) ((o (i + k) + (lim N i : Int) * lim M k % 4294967296 + c) / 4294967296 + (lim N i : Int) * lim M k / 4294967296) := by
  obtain ⟨hb, hc0, hc1, q, hq⟩ := h
  have hbo := hb (i + k) hik
  have hN := lim_lt N i
  have hM := lim_lt M k
  have hp0 : (0 : Int) ≤ (lim N i : Int) * lim M k := Int.mul_nonneg (by omega) (by omega)
  have hp1 : (lim N i : Int) * lim M k ≤ 4294967295 * 4294967295 := Int.mul_le_mul (by omega) (by omega) (by omega) (by decide)
  obtain ⟨p, hp⟩ : ∃ p, p = (lim N i : Int) * lim M k := ⟨_, rfl⟩
  rw [← hp] at hp0 hp1 ⊢
  obtain ⟨s, hs⟩ : ∃ s, s = o (i + k) + p % 4294967296 + c := ⟨_, rfl⟩
  rw [← hs]
  refine ⟨fun j hj => ?_, by omega, by omega, q, ?_⟩
  · show 0 ≤ (if j = i + k then s % 4294967296 else o j) ∧ (if j = i + k then s % 4294967296 else o j) < 4294967296
    split
    · omega
    · exact hb j hj
  · rw [five_put o (i + k) hik, low_succ]
    have e1 : pw (i + (k + 1)) = pw (i + k) * 4294967296 := pw_succ (i + k)
    have e2 := pw_add i k
    have d1 : s = 4294967296 * (s / 4294967296) + s % 4294967296 := by omega
    have d2 : p = 4294967296 * (p / 4294967296) + p % 4294967296 := by omega
    rw [e1]
    generalize s / 4294967296 = sb at *
    generalize s % 4294967296 = sm at *
    generalize p / 4294967296 = pb at *
    generalize p % 4294967296 = pm at *
    generalize pw (i + k) = P at *
    generalize pw i = Pi at *
    generalize pw k = Pk at *
    generalize low M k = lm at *
    generalize (lim N i : Int) = a at *
    generalize (lim M k : Int) = b at *
    generalize low N i = ln at *
    generalize pw 5 = p5 at *
    grind
theorem mul_next {N M : Int} {i : Nat} {o : Nat → Int} {c : Int} (h : MulAt N M i (5 - i) o c) (hi : i < 5) : MulAt N M (i + 1) 0 o 0 := by
  obtain ⟨hb, hc0, hc1, q, hq⟩ := h
  refine ⟨hb, by omega, by omega, q - c - (lim N i : Int) * rest M (5 - i), ?_⟩
  rw [show i + (5 - i) = 5 by omega] at hq
  have e1 := pw_add i (5 - i)
  rw [show i + (5 - i) = 5 by omega] at e1
  have e2 := low_split M (5 - i)
  rw [low_succ, low_zero]
  generalize pw (5 - i) = Pk at *
  generalize pw i = Pi at *
  generalize pw 5 = p5 at *
  generalize low M (5 - i) = lm at *
  generalize rest M (5 - i) = rm at *
  generalize (lim N i : Int) = a at *
  generalize low N i = ln at *
  grind
theorem mul_end {N M : Int} {o : Nat → Int} (h : MulAt N M 5 0 o 0) : ∀ j, j < 5 → o j = lim (N * M) j := by
  obtain ⟨hb, hc0, hc1, q, hq⟩ := h
  have e2 := low_split N 5
  rw [low_zero] at hq
  refine five_lim (q := q - rest N 5 * M) ?_ hb
  generalize pw 5 = p5 at *
  generalize low N 5 = ln at *
  generalize rest N 5 = rn at *
  grind
end Go.Proofs.Ytfkmbnlpdolemaa
