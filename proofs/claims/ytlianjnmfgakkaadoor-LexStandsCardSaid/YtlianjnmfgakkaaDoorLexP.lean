/- Texts, rune by rune, in plain Lean. -/
import Derived.Lib.DecodeN
import Derived.Lib.RuneCountTail
import Derived.Lib.MapLaws
namespace Go.Proofs.YtlianjnmfgakkaaDoor

def rune (s : ByteArray) (p : Nat) : Nat := (Utf8.decode s p).1
def width (s : ByteArray) (p : Nat) : Nat := (Utf8.decode s p).2
theorem width_pos (s : ByteArray) (p : Nat) : 1 ≤ width s p := by
  unfold width
  rw [Lib.decode_at]
  unfold Lib.decodeN
  repeat' split
  all_goals simp
theorem width_le (s : ByteArray) (p : Nat) : width s p ≤ 4 := by
  unfold width
  rw [Lib.decode_at]
  unfold Lib.decodeN
  repeat' split
  all_goals simp
theorem width_in {s : ByteArray} {p : Nat} (h : p < s.size) : p + width s p ≤ s.size := by
  unfold width
  rw [Lib.decode_at]
  unfold Lib.decodeN
  repeat' split
  all_goals simp only
  all_goals omega
theorem rune_le (s : ByteArray) (p : Nat) : rune s p ≤ 1114111 := by
  have hb : ∀ i, (s.get! i).toNat < 256 := fun i => UInt8.toNat_lt _
  unfold rune
  rw [Lib.decode_at]
  unfold Lib.decodeN
  repeat' split
  all_goals simp only
  all_goals first | omega | (have := hb p; have := hb (p + 1); have := hb (p + 2); omega)
/-- was it told apart from wrong bytes? -/
def okR (s : ByteArray) (p : Nat) : Bool := !decide (rune s p = 65533) || decide (1 < width s p)
theorem okR_bytes (s : ByteArray) (p : Nat) : okR s p = true ∨ (rune s p = 65533 ∧ width s p = 1) := by
  unfold okR
  have := width_pos s p
  by_cases h1 : rune s p = 65533
  · by_cases h2 : 1 < width s p
    · left; simp [h2]
    · right; exact ⟨h1, by omega⟩
  · left; simp [h1]
/-- a text's runes from a place on, with their places -/
def rns (s : ByteArray) (p : Nat) : List (Nat × Nat) :=
  if h : p < s.size then (p, rune s p) :: rns s (p + width s p) else []
termination_by s.size - p
decreasing_by have := width_pos s p; omega
theorem rns_in {s : ByteArray} {p : Nat} (h : p < s.size) : rns s p = (p, rune s p) :: rns s (p + width s p) := by
  rw [rns, dif_pos h]
theorem rns_end {s : ByteArray} {p : Nat} (h : ¬ p < s.size) : rns s p = [] := by rw [rns, dif_neg h]
theorem rns_ge (s : ByteArray) : ∀ (n p : Nat), s.size - p ≤ n → ∀ x ∈ rns s p, p ≤ x.1 := by
  intro n
  induction n with
  | zero => intro p hp x hx; rw [rns_end (by omega)] at hx; cases hx
  | succ n ih =>
    intro p hp x hx
    by_cases h : p < s.size
    · rw [rns_in h] at hx
      rcases List.mem_cons.1 hx with rfl | hx
      · exact Nat.le_refl _
      · have := width_pos s p
        have := ih _ (by omega) x hx
        omega
    · rw [rns_end h] at hx; cases hx
theorem rns_rune (s : ByteArray) : ∀ (n p : Nat), s.size - p ≤ n → ∀ x ∈ rns s p, x.2 = rune s x.1 ∧ x.1 < s.size := by
  intro n
  induction n with
  | zero => intro p hp x hx; rw [rns_end (by omega)] at hx; cases hx
  | succ n ih =>
    intro p hp x hx
    by_cases h : p < s.size
    · rw [rns_in h] at hx
      rcases List.mem_cons.1 hx with rfl | hx
      · exact ⟨rfl, h⟩
      · have := width_pos s p
        exact ih _ (by omega) x hx
    · rw [rns_end h] at hx; cases hx
/-- how many bytes go on -/
def whileN (s : ByteArray) (G : Nat → Bool) : Nat := match (rns s 0).find? (fun x => !(okR s x.1 && G x.2)) with
  | some x => x.1
  | none => s.size
theorem whileN_all (s : ByteArray) (G : Nat → Bool) : decide (whileN s G = s.size) = (rns s 0).all fun x => okR s x.1 && G x.2 := by
  unfold whileN
  cases h : (rns s 0).find? (fun x => !(okR s x.1 && G x.2)) with
  | some x =>
    have h1 := List.mem_of_find?_eq_some h
    have h2 := List.find?_some h
    have h3 := (rns_rune s _ 0 (Nat.le_refl _) x h1).2
    simp only
    rw [decide_eq_false (by omega)]
    symm
    rw [List.all_eq_false]
    exact ⟨x, h1, by rw [Bool.not_eq_true'] at h2; rw [h2]; decide⟩
  | none =>
    simp only [decide_true]
    symm
    rw [List.all_eq_true]
    intro x hx
    have := List.find?_eq_none.1 h x hx
    simpa using this
def letZ (z : Int) : Bool := decide (z = 95) || (decide (97 ≤ z) && decide (z ≤ 122)) || (decide (65 ≤ z) && decide (z ≤ 90)) || decide (128 ≤ z)
def digZ (z : Int) : Bool := decide (48 ≤ z) && decide (z ≤ 57)
def wordB (s : ByteArray) : Bool := (decide (s.size ≠ 0) && decide (s.size ≤ 24)) && (rns s 0).all fun x => okR s x.1 && (letZ (x.2 : Int) || (decide (x.1 ≠ 0) && digZ (x.2 : Int)))
theorem get_lt {s : ByteArray} {p : Nat} (h : p < s.size) : s.get! p = s[p] := by
  simp [ByteArray.get!, ByteArray.getElem_eq_getElem_data, Array.getElem!_eq_getD, Array.getD]
  split
  · rfl
  · rename_i h2; exact absurd h h2
theorem rune_first {s : ByteArray} {p : Nat} (h : p < s.size) : digZ ((rune s p : Nat) : Int) = digZ ((s[p].toNat : Nat) : Int) := by
  unfold rune
  rw [Lib.decode_at, get_lt h]
  unfold Lib.decodeN digZ
  by_cases h1 : s[p].toNat < 128
  · rw [if_pos h1]
  · rw [if_neg h1]
    have e2 : (decide (48 ≤ ((s[p].toNat : Nat) : Int)) && decide (((s[p].toNat : Nat) : Int) ≤ 57)) = false := by rw [decide_eq_false (p := ((s[p].toNat : Nat) : Int) ≤ 57) (by omega), Bool.and_false]
    rw [e2]
    repeat' split
    all_goals (simp only [Bool.and_eq_false_iff, decide_eq_false_iff_not]; right; omega)
theorem word_lex {s : ByteArray} (h : s.size ≠ 0) (h24 : s.size ≤ 24) : (!digZ ((s[0].toNat : Nat) : Int) && decide (whileN s (fun c => letZ (c : Int) || digZ (c : Int)) = s.size)) = wordB s := by
  rw [whileN_all]
  unfold wordB
  rw [decide_eq_true h, decide_eq_true h24, Bool.and_true, Bool.true_and, Bool.eq_iff_iff, Bool.and_eq_true, List.all_eq_true, List.all_eq_true]
  have h0 : 0 < s.size := by omega
  have hr := rune_first h0
  constructor
  · rintro ⟨h1, h2⟩ x hx
    have h3 := h2 x hx
    rw [Bool.and_eq_true, Bool.or_eq_true] at h3
    rw [Bool.and_eq_true, Bool.or_eq_true, Bool.and_eq_true, decide_eq_true_iff]
    refine ⟨h3.1, ?_⟩
    by_cases hx0 : x.1 = 0
    · rcases h3.2 with h4 | h4
      · exact .inl h4
      · have := (rns_rune s _ 0 (Nat.le_refl _) x hx).1
        rw [hx0] at this
        rw [this, hr] at h4
        rw [h4] at h1
        cases h1
    · exact h3.2.imp id fun h4 => ⟨hx0, h4⟩
  · intro h2
    constructor
    · have h3 := h2 (0, rune s 0) (by rw [rns_in h0]; exact List.mem_cons_self ..)
      rw [Bool.and_eq_true, Bool.or_eq_true, Bool.and_eq_true] at h3
      rcases h3.2 with h4 | h4
      · rw [← hr]
        cases hd : digZ ((rune s 0 : Nat) : Int)
        · rfl
        · simp only [letZ, digZ, Bool.or_eq_true, Bool.and_eq_true, decide_eq_true_iff] at h4 hd; omega
      · exact absurd h4.1 (by simp)
    · intro x hx
      have h3 := h2 x hx
      rw [Bool.and_eq_true, Bool.or_eq_true, Bool.and_eq_true] at h3
      rw [Bool.and_eq_true, Bool.or_eq_true]
      exact ⟨h3.1, h3.2.imp id fun h4 => h4.2⟩
theorem encode_size (c : Nat) (h : (c < 55296 ∨ 57344 ≤ c) ∧ c ≤ 1114111) : (Utf8.encode (c : Int)).size = if c < 128 then 1 else if c < 2048 then 2 else if c < 65536 then 3 else 4 := by
  have hv : Utf8.valid (c : Int) = true := by
    unfold Utf8.valid
    rw [Bool.or_eq_true, Bool.and_eq_true, Bool.and_eq_true, decide_eq_true_iff, decide_eq_true_iff, decide_eq_true_iff, decide_eq_true_iff]
    omega
  unfold Utf8.encode
  simp only [hv, if_true, Int.toNat_natCast]
  repeat' split
  all_goals rfl
/-- a rune told apart takes as many bytes as it is spelled with -/
theorem width_encode {s : ByteArray} {p : Nat} (h : okR s p = true) : (Utf8.encode ((rune s p : Nat) : Int)).size = width s p := by
  have hb : ∀ i, (s.get! i).toNat < 256 := fun i => UInt8.toNat_lt _
  have h0 := hb p
  have h1 := hb (p + 1)
  have h2 := hb (p + 2)
  have h3 := hb (p + 3)
  unfold okR at h
  revert h
  unfold rune width
  rw [Lib.decode_at]
  generalize (s.get! p).toNat = b0 at *
  generalize (s.get! (p + 1)).toNat = b1 at *
  generalize (s.get! (p + 2)).toNat = b2 at *
  generalize (s.get! (p + 3)).toNat = b3 at *
  generalize s.size - p = n
  clear hb
  unfold Lib.decodeN
  repeat' split
  all_goals intro h
  all_goals first
    | (exfalso; revert h; simp; done)
    | (simp only; rw [encode_size _ (by omega)]; (repeat' split); all_goals omega)
theorem loop_toList' (bs : ByteArray) : ∀ (n i : Nat) (r : List UInt8), n = bs.size - i → ByteArray.toList.loop bs i r = r.reverse ++ bs.data.toList.drop i
  | 0, i, r, h => by
    unfold ByteArray.toList.loop
    rw [if_neg (by omega), List.drop_eq_nil_of_le (by have e : bs.data.toList.length = bs.size := rfl; omega), List.append_nil]
  | n + 1, i, r, h => by
    unfold ByteArray.toList.loop
    rw [if_pos (by omega), loop_toList' bs n (i + 1) _ (by omega), List.reverse_cons, List.append_assoc]
    congr 1
    have hi : i < bs.data.toList.length := by have e : bs.data.toList.length = bs.size := rfl; omega
    rw [List.drop_eq_getElem_cons hi]
    simp [ByteArray.get!, Array.getElem!_eq_getD]
    rw [Array.getElem?_eq_getElem (by simpa using hi)]
    rfl
theorem toList_data' (a : ByteArray) : a.toList = a.data.toList := by
  unfold ByteArray.toList
  rw [loop_toList' a (a.size - 0) 0 [] rfl]
  simp
/-- how the rune of wrong bytes is told from wrong bytes -/
theorem first_three {s : ByteArray} (h : 3 ≤ s.size) : (s.extract 0 3).toList = [s.get! 0, s.get! 1, s.get! 2] := by
  obtain ⟨⟨l⟩⟩ := s
  match l, h with
  | a :: b :: c :: r, _ =>
    rw [toList_data']
    simp [ByteArray.extract, ByteArray.copySlice, ByteArray.get!]
  | [], h => simp [ByteArray.size] at h
  | [a], h => simp [ByteArray.size] at h
  | [a, b], h => simp [ByteArray.size] at h
theorem wrong_first {s : ByteArray} (h0 : 0 < s.size) (hr : rune s 0 = 65533) : okR s 0 = (decide (3 ≤ s.size) && ((s.extract 0 3).toList == [239, 191, 189])) ∧ (okR s 0 = true → width s 0 = 3) := by
  have hb : ∀ i, (s.get! i).toNat < 256 := fun i => UInt8.toNat_lt _
  have q0 := hb 0
  have q1 := hb 1
  have q2 := hb 2
  have q3 := hb 3
  have key : (1 < width s 0 ↔ (3 ≤ s.size ∧ (s.get! 0).toNat = 239 ∧ (s.get! 1).toNat = 191 ∧ (s.get! 2).toNat = 189)) ∧ (1 < width s 0 → width s 0 = 3) := by
    revert hr
    unfold rune width
    rw [Lib.decode_at]
    simp only [Nat.zero_add, Nat.sub_zero]
    generalize (s.get! 0).toNat = b0 at *
    generalize (s.get! 1).toNat = b1 at *
    generalize (s.get! 2).toNat = b2 at *
    generalize (s.get! 3).toNat = b3 at *
    generalize s.size = n at *
    clear hb
    unfold Lib.decodeN
    repeat' split
    all_goals intro hr
    all_goals simp only at hr ⊢
    all_goals first | omega | exact ⟨⟨fun _ => by omega, fun _ => by omega⟩, fun _ => trivial⟩
  refine ⟨?_, fun h => key.2 ?_⟩
  · unfold okR
    rw [hr, decide_eq_true rfl, Bool.not_true, Bool.false_or, Bool.eq_iff_iff, decide_eq_true_iff, Bool.and_eq_true, decide_eq_true_iff, key.1]
    constructor
    · rintro ⟨h3, e0, e1, e2⟩
      refine ⟨h3, ?_⟩
      rw [first_three h3, beq_iff_eq]
      have f0 : s.get! 0 = 239 := UInt8.toNat_inj.1 e0
      have f1 : s.get! 1 = 191 := UInt8.toNat_inj.1 e1
      have f2 : s.get! 2 = 189 := UInt8.toNat_inj.1 e2
      rw [f0, f1, f2]
    · rintro ⟨h3, e⟩
      rw [first_three h3, beq_iff_eq] at e
      injection e with e0 e
      injection e with e1 e
      injection e with e2 e
      rw [e0, e1, e2]
      exact ⟨h3, rfl, rfl, rfl⟩
  · unfold okR at h
    rw [hr, decide_eq_true rfl, Bool.not_true, Bool.false_or, decide_eq_true_iff] at h
    exact h
theorem tail_rune (s : ByteArray) (i : Nat) : Utf8.decode (s.extract i s.size) 0 = Utf8.decode s i := by
  have h := Lib.tail_decode s i 0
  rw [Nat.add_zero] at h
  exact h
end Go.Proofs.YtlianjnmfgakkaaDoor
