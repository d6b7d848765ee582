/- lex in plain Lean: the first token from a place on, all tokens, their text. -/
import Derived.Test.YtlianjnmfgakkaaDoorLxP
import Derived.Test.YtlianjnmfgakkaaDoorDigE
namespace Go.Proofs.YtlianjnmfgakkaaDoor

structure Tok where
  kind : Int
  pl : Int
  text : ByteArray
  glued : Bool
  deriving DecidableEq

abbrev eitherB : Nat → Bool := fun c => letZ (c : Int) || digZ (c : Int)
abbrev digB : Nat → Bool := fun c => digZ (c : Int)
def blankB (c : Nat) : Bool := decide (c = 32) || decide (c = 9)
def remB (c : Nat) : Bool := decide (32 ≤ c) || decide (c = 9)
def byt (s : ByteArray) (p : Nat) : Nat := (s.get! p).toNat
theorem byt_lt (s : ByteArray) (p : Nat) : byt s p < 256 := UInt8.toNat_lt _
theorem byt_at {s : ByteArray} {p : Nat} (h : p < s.size) : (s[p]'h).toNat = byt s p := (get_nat h).symm
def skipN (s : ByteArray) (p : Nat) : Nat × Bool :=
  if stp s blankB p < s.size ∧ byt s (stp s blankB p) = 35 then (stp s remB (stp s blankB p), decide (stp s remB (stp s blankB p) = s.size) || decide (byt s (stp s remB (stp s blankB p)) = 10))
  else (stp s blankB p, true)
def zeroT : Tok := ⟨0, 0, ⟨#[]⟩, false⟩
def glueN (s : ByteArray) (p a : Nat) : Bool := decide (a = p) && (decide (0 < a) && (!blankB (byt s (a - 1)) && !decide (byt s (a - 1) = 10)))
def fitB (t : ByteArray) : Bool := (readS (nums t)).2 == 0
/-- the place of the rune by which a word is too long -/
def lngF (s : ByteArray) (a : Nat) : Nat → Nat → Nat
  | 0, p => p
  | n + 1, p => if a + 24 < p + width s p then p else lngF s a n (p + width s p)
def lng (s : ByteArray) (a p : Nat) : Nat := lngF s a (a + 25 - p) p
theorem lngF_fuel (s : ByteArray) (a : Nat) : ∀ (n m p : Nat), a + 25 - p ≤ n → a + 25 - p ≤ m → p ≤ a + 24 → lngF s a n p = lngF s a m p := by
  intro n
  induction n with
  | zero => intro m p h1 h2 h3; omega
  | succ n ih =>
    intro m p h1 h2 h3
    cases m with
    | zero => omega
    | succ m =>
      unfold lngF
      have := width_pos s p
      by_cases h : a + 24 < p + width s p
      · rw [if_pos h, if_pos h]
      · rw [if_neg h, if_neg h, ih m (p + width s p) (by omega) (by omega) (by omega)]
theorem lng_out {s : ByteArray} {a p : Nat} (hp : p ≤ a + 24) (h : a + 24 < p + width s p) : lng s a p = p := by
  unfold lng
  rw [show a + 25 - p = (a + 24 - p) + 1 by omega]
  unfold lngF
  rw [if_pos h]
theorem lng_go {s : ByteArray} {a p : Nat} (h : ¬ a + 24 < p + width s p) : lng s a p = lng s a (p + width s p) := by
  have := width_pos s p
  unfold lng
  rw [lngF_fuel s a (a + 25 - (p + width s p)) (a + 24 - p) (p + width s p) (by omega) (by omega) (by omega), show a + 25 - p = (a + 24 - p) + 1 by omega]
  conv => lhs; unfold lngF
  rw [if_neg h]
/-- the token, the place behind it or of what is wrong, the error -/
def nextN (s : ByteArray) (p : Nat) : Tok × Nat × Int :=
  if (skipN s p).2 = false then (zeroT, (skipN s p).1, 120)
  else if ¬ (skipN s p).1 < s.size then (⟨5, (skipN s p).1, ⟨#[]⟩, false⟩, (skipN s p).1, 0)
  else if byt s (skipN s p).1 = 10 then (⟨4, (skipN s p).1, s.extract (skipN s p).1 ((skipN s p).1 + 1), false⟩, (skipN s p).1 + 1, 0)
  else if byt s (skipN s p).1 = 46 ∨ byt s (skipN s p).1 = 45 then (⟨3, (skipN s p).1, s.extract (skipN s p).1 ((skipN s p).1 + 1), glueN s p (skipN s p).1⟩, (skipN s p).1 + 1, 0)
  else if digZ (byt s (skipN s p).1 : Int) = true then
    if byt s (skipN s p).1 = 48 ∧ (skipN s p).1 + 1 < stp s digB (skipN s p).1 then (zeroT, (skipN s p).1 + 1, 120)
    else if fitB (s.extract (skipN s p).1 (stp s digB (skipN s p).1)) = true then (⟨2, (skipN s p).1, s.extract (skipN s p).1 (stp s digB (skipN s p).1), glueN s p (skipN s p).1⟩, stp s digB (skipN s p).1, 0)
    else (zeroT, (skipN s p).1, 121)
  else if stp s eitherB (skipN s p).1 = (skipN s p).1 then (zeroT, (skipN s p).1, 120)
  else if (skipN s p).1 + 24 < stp s eitherB (skipN s p).1 then (zeroT, lng s (skipN s p).1 (skipN s p).1, 120)
  else (⟨1, (skipN s p).1, s.extract (skipN s p).1 (stp s eitherB (skipN s p).1), glueN s p (skipN s p).1⟩, stp s eitherB (skipN s p).1, 0)
theorem skip_ge (s : ByteArray) (p : Nat) : p ≤ (skipN s p).1 := by
  unfold skipN
  have h1 := stp_ge s blankB p
  have h2 := stp_ge s remB (stp s blankB p)
  split
  · exact Nat.le_trans h1 h2
  · exact h1
theorem skip_le (s : ByteArray) (p : Nat) (hp : p ≤ s.size) : (skipN s p).1 ≤ s.size := by
  unfold skipN
  have h1 := stp_le s blankB p hp
  have h2 := stp_le s remB _ h1
  split
  · exact h2
  · exact h1
theorem dig_go {s : ByteArray} {a : Nat} (h : a < s.size) (hd : digZ (byt s a : Int) = true) : stp s digB a = stp s digB (a + 1) := by
  have hb : byt s a < 128 := by
    unfold digZ at hd
    simp at hd
    omega
  obtain ⟨e1, e2, e3⟩ := rune_small hb
  have h1 := stp_go (G := digB) h e3 (by rw [e1]; exact hd)
  rw [e2] at h1
  exact h1
/-- what the next token is, whatever it is -/
theorem next_cases (s : ByteArray) (p : Nat) (hp : p ≤ s.size) : ((nextN s p).2.2 = 120 ∨ (nextN s p).2.2 = 121 ∨ (nextN s p).2.2 = 0) ∧
    ((nextN s p).2.2 = 0 → (nextN s p).1.kind ≠ 5 → p < (nextN s p).2.1 ∧ (nextN s p).2.1 ≤ s.size) := by
  have hge := skip_ge s p
  have hle := skip_le s p hp
  unfold nextN
  generalize skipN s p = a at *
  by_cases h1 : a.2 = false
  · rw [if_pos h1]; exact ⟨.inl rfl, fun h => by cases h⟩
  rw [if_neg h1]
  by_cases h2 : ¬ a.1 < s.size
  · rw [if_pos h2]; exact ⟨.inr (.inr rfl), fun _ h => absurd rfl h⟩
  rw [if_neg h2]
  replace h2 := Decidable.not_not.1 h2
  by_cases h3 : byt s a.1 = 10
  · rw [if_pos h3]; exact ⟨.inr (.inr rfl), fun _ _ => ⟨by simp only; omega, by simp only; omega⟩⟩
  rw [if_neg h3]
  by_cases h4 : byt s a.1 = 46 ∨ byt s a.1 = 45
  · rw [if_pos h4]; exact ⟨.inr (.inr rfl), fun _ _ => ⟨by simp only; omega, by simp only; omega⟩⟩
  rw [if_neg h4]
  by_cases h5 : digZ (byt s a.1 : Int) = true
  · rw [if_pos h5]
    by_cases h6 : byt s a.1 = 48 ∧ a.1 + 1 < stp s digB a.1
    · rw [if_pos h6]; exact ⟨.inl rfl, fun h => by cases h⟩
    rw [if_neg h6]
    have e1 := dig_go h2 h5
    have e2 := stp_ge s digB (a.1 + 1)
    have e3 := stp_le s digB (a.1 + 1) h2
    split
    · exact ⟨.inr (.inr rfl), fun _ _ => ⟨by simp only; omega, by simp only; omega⟩⟩
    · exact ⟨.inr (.inl rfl), fun h => by cases h⟩
  rw [if_neg h5]
  by_cases h6 : stp s eitherB a.1 = a.1
  · rw [if_pos h6]; exact ⟨.inl rfl, fun h => by cases h⟩
  rw [if_neg h6]
  have e2 := stp_ge s eitherB a.1
  have e3 := stp_le s eitherB a.1 hle
  split
  · exact ⟨.inl rfl, fun h => by cases h⟩
  · exact ⟨.inr (.inr rfl), fun _ _ => ⟨by simp only; omega, by simp only; omega⟩⟩
/-- what is told, token by token -/
abbrev Fnd := Tok × Nat × Int
def fndF (s : ByteArray) : Nat → Nat → List Fnd
  | 0, _ => []
  | n + 1, p => if (nextN s p).2.2 = 0 ∧ (nextN s p).1.kind = 5 then [] else if (nextN s p).2.2 = 0 then nextN s p :: fndF s n (nextN s p).2.1 else [nextN s p]
def fnd (s : ByteArray) (p : Nat) : List Fnd := fndF s (s.size + 1 - p) p
theorem fndF_fuel (s : ByteArray) : ∀ (n m p : Nat), p ≤ s.size → s.size + 1 - p ≤ n → s.size + 1 - p ≤ m → fndF s n p = fndF s m p := by
  intro n
  induction n with
  | zero => intro m p h0 h1 h2; omega
  | succ n ih =>
    intro m p h0 h1 h2
    cases m with
    | zero => omega
    | succ m =>
      unfold fndF
      have hn := (next_cases s p h0).2
      by_cases h : (nextN s p).2.2 = 0 ∧ (nextN s p).1.kind = 5
      · rw [if_pos h, if_pos h]
      rw [if_neg h, if_neg h]
      by_cases h3 : (nextN s p).2.2 = 0
      · have := hn h3 (fun e => h ⟨h3, e⟩)
        rw [if_pos h3, if_pos h3, ih m _ this.2 (by omega) (by omega)]
      · rw [if_neg h3, if_neg h3]
theorem fnd_stop {s : ByteArray} {p : Nat} (hp : p ≤ s.size) (h : (nextN s p).2.2 = 0) (h5 : (nextN s p).1.kind = 5) : fnd s p = [] := by
  unfold fnd
  rw [show s.size + 1 - p = (s.size - p) + 1 by omega]
  unfold fndF
  rw [if_pos ⟨h, h5⟩]
theorem fnd_err {s : ByteArray} {p : Nat} (hp : p ≤ s.size) (h : (nextN s p).2.2 ≠ 0) : fnd s p = [nextN s p] := by
  unfold fnd
  rw [show s.size + 1 - p = (s.size - p) + 1 by omega]
  unfold fndF
  rw [if_neg (fun e => h e.1), if_neg h]
theorem fnd_more {s : ByteArray} {p : Nat} (hp : p ≤ s.size) (h : (nextN s p).2.2 = 0) (h5 : (nextN s p).1.kind ≠ 5) : fnd s p = nextN s p :: fnd s (nextN s p).2.1 := by
  have hn := (next_cases s p hp).2 h h5
  unfold fnd
  rw [fndF_fuel s (s.size + 1 - (nextN s p).2.1) (s.size - p) _ hn.2 (by omega) (by omega), show s.size + 1 - p = (s.size - p) + 1 by omega]
  conv => lhs; unfold fndF
  rw [if_neg (fun e => h5 e.2), if_pos h]
/-- all tokens, or the place of what is wrong, and how -/
def gather : List Fnd → Nat → List Tok × Nat × Int
  | [], z => ([], z, 0)
  | f :: l, z => if f.2.2 = 0 then (if (gather l z).2.2 = 0 then (f.1 :: (gather l z).1, (gather l z).2.1, 0) else ([], (gather l z).2.1, (gather l z).2.2)) else ([], f.2.1, f.2.2)
theorem gather_ok : ∀ (l : List Fnd) (z : Nat), (∀ f ∈ l, f.2.2 = 0) → gather l z = (l.map (·.1), z, 0)
  | [], _, _ => rfl
  | f :: l, z, h => by
    unfold gather
    rw [gather_ok l z (fun x hx => h x (List.mem_cons_of_mem _ hx)), if_pos (h f (List.mem_cons_self ..)), if_pos rfl]
    rfl
theorem gather_err : ∀ (l r : List Fnd) (f : Fnd) (z : Nat), (∀ x ∈ l, x.2.2 = 0) → f.2.2 ≠ 0 → gather (l ++ f :: r) z = ([], f.2.1, f.2.2)
  | [], r, f, z, _, h => by
    rw [List.nil_append]
    unfold gather
    rw [if_neg h]
  | g :: l, r, f, z, h, hf => by
    rw [List.cons_append]
    unfold gather
    rw [gather_err l r f z (fun x hx => h x (List.mem_cons_of_mem _ hx)) hf, if_pos (h g (List.mem_cons_self ..)), if_neg hf]
def runN (s : ByteArray) (p : Nat) : List Tok × Nat × Int := gather (fnd s p) s.size
def allN (s : ByteArray) : List Tok × Nat × Int := runN s 0
theorem run_stop {s : ByteArray} {p : Nat} (hp : p ≤ s.size) (h : (nextN s p).2.2 = 0) (h5 : (nextN s p).1.kind = 5) : runN s p = ([], s.size, 0) := by
  unfold runN
  rw [fnd_stop hp h h5]
  rfl
theorem run_err {s : ByteArray} {p : Nat} (hp : p ≤ s.size) (h : (nextN s p).2.2 ≠ 0) : runN s p = ([], (nextN s p).2.1, (nextN s p).2.2) := by
  unfold runN
  rw [fnd_err hp h]
  unfold gather
  rw [if_neg h]
theorem run_more {s : ByteArray} {p : Nat} (hp : p ≤ s.size) (h : (nextN s p).2.2 = 0) (h5 : (nextN s p).1.kind ≠ 5) : runN s p = if (runN s (nextN s p).2.1).2.2 = 0 then ((nextN s p).1 :: (runN s (nextN s p).2.1).1, (runN s (nextN s p).2.1).2.1, 0) else ([], (runN s (nextN s p).2.1).2.1, (runN s (nextN s p).2.1).2.2) := by
  unfold runN
  rw [fnd_more hp h h5]
  conv => lhs; unfold gather
  rw [if_pos h]
/-- the text of tokens; true: a line begins -/
def spellF : Bool → List Tok → ByteArray
  | _, [] => ⟨#[]⟩
  | b, t :: l => (if (!b && (!t.glued && !decide (t.kind = 4))) = true then ⟨#[32]⟩ else ⟨#[]⟩) ++ t.text ++ spellF (decide (t.kind = 4)) l
def spellN (l : List Tok) : ByteArray := spellF true l
end Go.Proofs.YtlianjnmfgakkaaDoor
