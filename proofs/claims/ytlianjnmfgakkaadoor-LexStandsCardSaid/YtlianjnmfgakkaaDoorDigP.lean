/- Plain words on texts of numbers: what is read of a number's text is the number, the text of what is read is the text. -/
import Derived.Test.YtlianjnmfgakkaaDoorDigE
namespace Go.Proofs.YtlianjnmfgakkaaDoor
open Go.RowKit Go.Lib

theorem nums_bs (l : List Int) (h : ∀ x ∈ l, 0 ≤ x ∧ x < 256) : nums (bs l) = l := by
  unfold nums bs
  simp only [List.map_map]
  conv => rhs; rw [← List.map_id l]
  apply List.map_congr_left
  intro x hx
  obtain ⟨h1, h2⟩ := h x hx
  show ((UInt8.ofNat x.toNat).toNat : Int) = x
  rw [UInt8.toNat_ofNat_of_lt' (by show x.toNat < 256; omega)]
  omega
theorem bs_nums (s : ByteArray) : bs (nums s) = s := by
  obtain ⟨⟨l⟩⟩ := s
  unfold nums bs
  simp only [List.map_map]
  congr 2
  conv => rhs; rw [← List.map_id l]
  apply List.map_congr_left
  intro x _
  show UInt8.ofNat ((x.toNat : Int)).toNat = x
  simp
theorem bs_append (a b : List Int) : bs (a ++ b) = bs a ++ bs b := by
  unfold bs
  apply ByteArray.ext
  simp [ByteArray.data_append]
theorem nums_append (a b : ByteArray) : nums (a ++ b) = nums a ++ nums b := by
  unfold nums
  simp [ByteArray.data_append]
theorem nums_inj {a b : ByteArray} (h : nums a = nums b) : a = b := by rw [← bs_nums a, h, bs_nums]
theorem bs_size (l : List Int) : (bs l).size = l.length := by
  show (l.map fun n => UInt8.ofNat n.toNat).toArray.size = _
  simp
theorem extract_front (a b : ByteArray) : (a ++ b).extract 0 a.size = a := by
  apply ByteArray.ext
  rw [ByteArray.data_extract, ByteArray.data_append]
  simp [← ByteArray.size_data]
theorem extract_back (a b : ByteArray) : (a ++ b).extract a.size (a ++ b).size = b := by
  apply ByteArray.ext
  rw [ByteArray.data_extract, ByteArray.data_append]
  simp [← ByteArray.size_data, ByteArray.size_append]
theorem extract_both (s : ByteArray) (k : Nat) (h : k ≤ s.size) : s.extract 0 k ++ s.extract k s.size = s := by
  apply ByteArray.ext
  rw [ByteArray.data_append, ByteArray.data_extract, ByteArray.data_extract]
  simp [← ByteArray.size_data]
  omega

theorem head_app {a b : List Int} (h : a ≠ []) : (a ++ b).head? = a.head? := by
  cases a with
  | nil => exact absurd rfl h
  | cons x a => rfl
theorem dig_D : ∀ (f m : Nat), m ≤ f → ∀ b ∈ dig m, isD b = true
  | 0, m, h, b, hb => by
    have : m = 0 := by omega
    subst this
    rw [dig, if_pos (by decide)] at hb
    simp at hb
    subst hb
    decide
  | f + 1, m, h, b, hb => by
    rw [dig] at hb
    split at hb
    · simp at hb
      subst hb
      unfold isD
      simp
      omega
    · rcases List.mem_append.1 hb with h1 | h1
      · exact dig_D f (m / 10) (by omega) b h1
      · simp at h1
        subst h1
        unfold isD
        simp
        omega
theorem dig_ne (m : Nat) : dig m ≠ [] := by
  rw [dig]
  split <;> simp
theorem dig_val : ∀ (f m : Nat), m ≤ f → val (dig m) = m
  | 0, m, h => by
    have : m = 0 := by omega
    subst this
    rw [dig, if_pos (by decide)]
    rfl
  | f + 1, m, h => by
    rw [dig]
    split
    · simp [val]
      omega
    · rw [val_snoc, dig_val f (m / 10) (by omega)]
      omega
theorem dig_head : ∀ (f m : Nat), m ≤ f → 0 < m → (dig m).head? ≠ some 48
  | 0, m, h, h0 => by omega
  | f + 1, m, h, h0 => by
    rw [dig]
    split
    · simp
      omega
    · rw [head_app (dig_ne _)]
      exact dig_head f (m / 10) (by omega) (by omega)
theorem val_ge : ∀ (D : List Int) (a : Nat), a ≤ D.foldl (fun a b => a * 10 + (b - 48).toNat) a
  | [], a => Nat.le_refl _
  | b :: D, a => by
    rw [List.foldl_cons]
    have := val_ge D (a * 10 + (b - 48).toNat)
    omega
theorem val_pos {D : List Int} (h : ∀ b ∈ D, isD b = true) (h0 : D ≠ []) (h1 : D.head? ≠ some 48) : 0 < val D := by
  cases D with
  | nil => exact absurd rfl h0
  | cons b D =>
    have hb := h b (by simp)
    unfold isD at hb
    simp at hb h1
    unfold val
    rw [List.foldl_cons]
    have := val_ge D (0 * 10 + (b - 48).toNat)
    omega
theorem val_dig : ∀ (n : Nat) (D : List Int), D.length = n → (∀ b ∈ D, isD b = true) → D ≠ [] → (D.head? = some 48 → D.length = 1) → dig (val D) = D
  | 0, D, hl, _, h0, _ => absurd (List.eq_nil_of_length_eq_zero hl) h0
  | n + 1, D, hl, hD, h0, h1 => by
    obtain ⟨D', b, rfl⟩ : ∃ D' b, D = D' ++ [b] := by
      rcases List.eq_nil_or_concat D with rfl | ⟨ys, y, rfl⟩
      · exact absurd rfl h0
      · exact ⟨ys, y, by simp⟩
    have hb := hD b (by simp)
    unfold isD at hb
    simp at hb
    rw [val_snoc]
    by_cases he : D' = []
    · subst he
      rw [dig, if_pos (by simp [val]; omega)]
      simp [val]
      omega
    · have hh : D'.head? ≠ some 48 := by
        intro e
        have := h1 (by rw [head_app he]; exact e)
        simp at this
        exact he this
      have hD' : ∀ b ∈ D', isD b = true := fun x hx => hD x (List.mem_append_left _ hx)
      have hp := val_pos hD' he hh
      have ih := val_dig n D' (by simpa using hl) hD' he (fun e => absurd e hh)
      rw [dig, if_neg (by omega)]
      have e1 : (val D' * 10 + (b - 48).toNat) / 10 = val D' := by omega
      have e2 : (val D' * 10 + (b - 48).toNat) % 10 = (b - 48).toNat := by omega
      rw [e1, e2, ih]
      congr 2
      omega

theorem txt_bytes (n : Int) : ∀ x ∈ txt n, 0 ≤ x ∧ x < 256 := by
  intro x hx
  have hd : ∀ y ∈ dig n.natAbs, 0 ≤ y ∧ y < 256 := by
    intro y hy
    have := dig_D _ _ (Nat.le_refl _) y hy
    unfold isD at this
    simp at this
    omega
  unfold txt at hx
  split at hx
  · rcases List.mem_cons.1 hx with rfl | h
    · omega
    · exact hd x h
  · exact hd x hx
theorem nums_txt (n : Int) : nums (bs (txt n)) = txt n := nums_bs _ (txt_bytes n)
theorem txt_length (n : Int) : 0 < (txt n).length := by
  unfold txt
  have := List.length_pos_iff.2 (dig_ne n.natAbs)
  split
  · simp
  · exact this
theorem nd_append {D r : List Int} (hD : ∀ b ∈ D, isD b = true) (hr : ∀ b, r.head? = some b → isD b = false) : nd (D ++ r) = D.length := by
  unfold nd
  rw [List.takeWhile_append_of_pos hD]
  cases r with
  | nil => simp
  | cons b r =>
    rw [List.takeWhile_cons, hr b rfl]
    simp
theorem dig_first {m : Nat} {r : List Int} : (dig m ++ r).head? ≠ some 45 := by
  rw [head_app (dig_ne m)]
  intro e
  have hm := List.mem_of_mem_head? (by rw [e]; rfl : (45 : Int) ∈ (dig m).head?)
  have := dig_D _ _ (Nat.le_refl _) 45 hm
  exact absurd this (by decide)
theorem txt_sg (n : Int) (r : List Int) : sg (txt n ++ r) = (if n < 0 then 1 else 0) ∧ (txt n ++ r).drop (sg (txt n ++ r)) = dig n.natAbs ++ r := by
  unfold txt
  split
  · have : sg (45 :: dig n.natAbs ++ r) = 1 := rfl
    rw [this]
    exact ⟨rfl, rfl⟩
  · have : sg (dig n.natAbs ++ r) = 0 := by
      unfold sg
      rw [if_neg dig_first]
    rw [this]
    exact ⟨rfl, rfl⟩
theorem txt_head (n : Int) (r : List Int) (hr : ∀ b, r.head? = some b → isD b = false) : headEnd (txt n ++ r) = (txt n).length := by
  obtain ⟨h1, h2⟩ := txt_sg n r
  unfold headEnd
  rw [h2, nd_append (dig_D _ _ (Nat.le_refl _)) hr, h1]
  have hl := List.length_pos_iff.2 (dig_ne n.natAbs)
  rw [if_neg (by omega)]
  unfold txt
  split
  · simp; omega
  · simp
/-- what is read of a number's text is the number -/
theorem read_txt (n : Int) (hn : in64 n) : readS (txt n) = (n, 0) := by
  have h1 := txt_head n [] (by simp)
  obtain ⟨h2, h3⟩ := txt_sg n []
  simp only [List.append_nil] at h1 h2 h3
  have hneg : neg (txt n) = decide (n < 0) := by
    unfold neg txt
    split
    · rename_i h
      rw [decide_eq_true h]
      rfl
    · rename_i h
      rw [decide_eq_false h, beq_eq_false_iff_ne]
      have := @dig_first n.natAbs []
      simpa using this
  have hl := txt_length n
  unfold readS
  rw [h1, if_neg (by omega), h3, hneg, dig_val _ _ (Nat.le_refl _), if_neg]
  · unfold in64 at hn
    by_cases h : n < 0
    · rw [decide_eq_true h, if_pos (by simp; omega)]
      simp
      omega
    · rw [decide_eq_false h, if_pos (by simp; omega)]
      simp
      omega
  · rintro ⟨h48, h5⟩
    have h0 : n.natAbs = 0 := by
      rcases Nat.eq_zero_or_pos n.natAbs with h | h
      · exact h
      · exact absurd h48 (dig_head _ _ (Nat.le_refl _) h)
    rcases h5 with h5 | h5
    · rw [h0, dig, if_pos (by decide)] at h5
      simp at h5
    · simp at h5
      omega
/-- the text of what is read is the text -/
theorem txt_read {L : List Int} {m : Int} (h : readS L = (m, 0)) : in64 m ∧ txt m = L := by
  unfold readS at h
  split at h
  · cases h
  · rename_i h1
    split at h
    · cases h
    · rename_i h2
      split at h
      · rename_i h3
        have hk : headEnd L = L.length := by
          by_cases h4 : headEnd L = L.length
          · exact h4
          · exact absurd (.inr h4) h1
        have hL0 : 0 < L.length := by
          rcases Nat.eq_zero_or_pos L.length with h4 | h4
          · exact absurd (.inl (hk.trans h4)) h1
          · exact h4
        obtain ⟨hI, hD⟩ := all_head hk hL0
        have hv := val_dig _ _ rfl hD hI (fun e => by
          by_cases h5 : 1 < (L.drop (sg L)).length
          · exact absurd ⟨e, .inl h5⟩ h2
          · have := List.length_pos_iff.2 hI
            omega)
        injection h with h4 h5
        cases hn : neg L with
        | true =>
          rw [hn] at h2 h3 h4
          have hh : L.head? = some 45 := by
            unfold neg at hn
            simpa using hn
          have hs : sg L = 1 := by unfold sg; rw [if_pos hh]
          have hp := val_pos hD hI (fun e => h2 ⟨e, .inr rfl⟩)
          simp at h3 h4
          refine ⟨by unfold in64; omega, ?_⟩
          unfold txt
          rw [if_pos (by omega), show m.natAbs = val (L.drop (sg L)) by omega, hv, hs]
          cases L with
          | nil => simp at hh
          | cons x L => simp at hh; subst hh; rfl
        | false =>
          rw [hn] at h2 h3 h4
          have hs : sg L = 0 := by
            unfold sg
            rw [if_neg]
            unfold neg at hn
            simpa using hn
          simp at h3 h4
          refine ⟨by unfold in64; omega, ?_⟩
          unfold txt
          rw [if_neg (by omega), show m.natAbs = val (L.drop (sg L)) by omega, hv, hs]
          rfl
      · cases h
theorem read_err (L : List Int) : (readS L).2 = 0 ∨ (readS L = (0, 110) ∨ readS L = (0, 111)) := by
  unfold readS
  split
  · exact .inr (.inl rfl)
  · split
    · exact .inr (.inl rfl)
    · split
      · exact .inl rfl
      · exact .inr (.inr rfl)
end Go.Proofs.YtlianjnmfgakkaaDoor
