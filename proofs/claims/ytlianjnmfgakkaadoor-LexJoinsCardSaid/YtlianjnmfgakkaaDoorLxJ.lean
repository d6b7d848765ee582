/- A text within a text, behind which the text ends or a line feed stands: its tokens there are its tokens (plain). -/
import Derived.Test.YtlianjnmfgakkaaDoorLxN
namespace Go.Proofs.YtlianjnmfgakkaaDoor

/-- u stands in t at d; ahead of it there is nothing, or a line feed, and behind it, too -/
structure Emb (u t : ByteArray) (d : Nat) : Prop where
  size : d + u.size ≤ t.size
  byte : ∀ i, i < u.size → t.get! (d + i) = u.get! i
  ends : d + u.size < t.size → byt t (d + u.size) = 10
  begins : 0 < d → byt t (d - 1) = 10
section
variable {u t : ByteArray} {d : Nat}
theorem Emb.byt_ (h : Emb u t d) {i : Nat} (hi : i < u.size) : byt t (d + i) = byt u i := congrArg UInt8.toNat (h.byte i hi)
theorem Emb.dec (h : Emb u t d) {p : Nat} (hp : p < u.size) : rune t (d + p) = rune u p ∧ width t (d + p) = width u p ∧ okR t (d + p) = okR u p := by
  have hs := h.size
  have hd : Utf8.decode t (d + p) = Utf8.decode u p := by
    refine decode_ahead hp (by omega) (fun i hi => ?_) (fun hx => ?_)
    · rw [Nat.add_assoc]; exact h.byte _ (by omega)
    · rw [show d + p + (u.size - p) = d + u.size by omega] at hx ⊢
      have : (t.get! (d + u.size)).toNat = 10 := h.ends hx
      omega
  unfold okR rune width
  rw [hd]
  exact ⟨rfl, rfl, rfl⟩
theorem Emb.stop (h : Emb u t d) {G : Nat → Bool} (hG : G 10 = false) : ∀ p, p ≤ u.size → stp t G (d + p) = d + stp u G p := by
  refine rune_ind u (fun p hp hle => ?_) (fun p hp ih _ => ?_)
  · obtain rfl : p = u.size := by omega
    rw [stp_end hp]
    by_cases ht : d + u.size < t.size
    · have hb := h.ends ht
      obtain ⟨e1, -, -⟩ := rune_small (s := t) (p := d + u.size) (by show byt t _ < 128; omega)
      refine stp_out ?_
      rw [e1, show (t.get! (d + u.size)).toNat = 10 from hb, hG, Bool.and_false]
    · exact stp_end ht
  · obtain ⟨e1, e2, e3⟩ := h.dec hp
    have hs := h.size
    cases hg : (okR u p && G (rune u p)) with
    | false => rw [stp_out hg, stp_out (by rw [e1, e3]; exact hg)]
    | true =>
      rw [Bool.and_eq_true] at hg
      rw [stp_go hp hg.1 hg.2, stp_go (p := d + p) (by omega) (by rw [e3]; exact hg.1) (by rw [e1]; exact hg.2), e2, Nat.add_assoc]
      exact ih (width_in hp)
theorem Emb.ext (h : Emb u t d) {i j : Nat} (hi : i ≤ j) (hj : j ≤ u.size) : t.extract (d + i) (d + j) = u.extract i j := by
  have hs := h.size
  have z1 : (t.extract (d + i) (d + j)).size = j - i := by rw [ByteArray.size_extract]; omega
  have z2 : (u.extract i j).size = j - i := by rw [ByteArray.size_extract]; omega
  refine ByteArray.ext_getElem (by rw [z1, z2]) (fun k h1 h2 => ?_)
  rw [ByteArray.getElem_extract, ByteArray.getElem_extract, ← get_lt (by omega), ← get_lt (by omega), Nat.add_assoc]
  exact h.byte _ (by omega)
theorem Emb.skip (h : Emb u t d) {p : Nat} (hp : p ≤ u.size) : skipN t (d + p) = (d + (skipN u p).1, (skipN u p).2) := by
  have hs := h.size
  have hx := stp_le u blankB p hp
  have hy := stp_le u remB _ hx
  unfold skipN
  rw [h.stop (G := blankB) rfl p hp, h.stop (G := remB) rfl _ hx]
  by_cases hc : stp u blankB p < u.size ∧ byt u (stp u blankB p) = 35
  · rw [if_pos hc, if_pos ⟨by omega, by rw [h.byt_ hc.1]; exact hc.2⟩]
    refine congrArg (Prod.mk _) ?_
    by_cases hy2 : stp u remB (stp u blankB p) < u.size
    · rw [h.byt_ hy2, decide_eq_false (show ¬ stp u remB (stp u blankB p) = u.size by omega), decide_eq_false (show ¬ d + stp u remB (stp u blankB p) = t.size by omega)]
    · have e : stp u remB (stp u blankB p) = u.size := by omega
      rw [e, decide_eq_true rfl, Bool.true_or]
      by_cases ht : d + u.size = t.size
      · rw [decide_eq_true ht, Bool.true_or]
      · rw [h.ends (by omega), Bool.or_eq_true]
        exact .inr rfl
  · rw [if_neg hc, if_neg]
    rintro ⟨h1, h2⟩
    by_cases hx2 : stp u blankB p < u.size
    · rw [h.byt_ hx2] at h2
      exact hc ⟨hx2, h2⟩
    · rw [show stp u blankB p = u.size by omega] at h1 h2
      rw [h.ends h1] at h2
      cases h2
theorem Emb.longF (h : Emb u t d) (a : Nat) : ∀ (n p : Nat), a + 24 < stp u eitherB p → lngF t (d + a) n (d + p) = d + lngF u a n p
  | 0, p, _ => rfl
  | n + 1, p, hk => by
    unfold lngF
    by_cases hp : p < u.size
    · rw [(h.dec hp).2.1]
      by_cases hc : a + 24 < p + width u p
      · rw [if_pos hc, if_pos (by omega)]
      · rw [if_neg hc, if_neg (by omega), Nat.add_assoc]
        refine h.longF a n (p + width u p) ?_
        have := stp_ge u eitherB p
        cases hg : (okR u p && eitherB (rune u p)) with
        | false =>
          rw [stp_out hg] at hk
          omega
        | true =>
          rw [Bool.and_eq_true] at hg
          rw [← stp_go hp hg.1 hg.2]
          exact hk
    · rw [stp_end hp] at hk
      have w1 := width_pos u p
      have w2 := width_pos t (d + p)
      rw [if_pos (by omega), if_pos (by omega)]
theorem Emb.long (h : Emb u t d) {a : Nat} (hk : a + 24 < stp u eitherB a) : lng t (d + a) (d + a) = d + lng u a a := by
  unfold lng
  rw [show d + a + 25 - (d + a) = a + 25 - a by omega]
  exact h.longF a _ a hk
theorem Emb.glue (h : Emb u t d) {p x : Nat} (hx : x ≤ u.size) : glueN t (d + p) (d + x) = glueN u p x := by
  unfold glueN
  by_cases hpx : x = p
  · subst hpx
    rw [decide_eq_true rfl, decide_eq_true rfl, Bool.true_and, Bool.true_and]
    by_cases h0 : 0 < x
    · rw [decide_eq_true h0, decide_eq_true (by omega), show d + x - 1 = d + (x - 1) by omega, h.byt_ (by omega)]
    · rw [decide_eq_false h0, Bool.false_and]
      obtain rfl : x = 0 := by omega
      by_cases hd : 0 < d
      · rw [Nat.add_zero, h.begins hd, decide_eq_true rfl, Bool.not_true, Bool.and_false, Bool.and_false]
      · rw [decide_eq_false (by omega), Bool.false_and]
  · rw [decide_eq_false hpx, decide_eq_false (by omega)]
    rfl
/-- a token, and its place, at another place -/
def shT (d : Nat) (x : Tok) : Tok := { x with pl := d + x.pl }
def shN (d : Nat) (N : Tok × Nat × Int) : Tok × Nat × Int := (if N.2.2 = 0 then shT d N.1 else N.1, d + N.2.1, N.2.2)
theorem Emb.next (h : Emb u t d) {p : Nat} (hp : p ≤ u.size) (hc : (skipN u p).2 = false ∨ (skipN u p).1 < u.size) : nextN t (d + p) = shN d (nextN u p) := by
  have hs := h.size
  have hle := skip_le u p hp
  have hsk := h.skip hp
  have hn : (if (skipN u p).2 = false then shN d (zeroT, (skipN u p).1, 120) else shN d (nextN u p)) = shN d (nextN u p) := by
    split
    · rename_i h1
      unfold nextN
      rw [if_pos h1]
    · rfl
  rw [← hn]
  clear hn
  unfold nextN
  rw [hsk]
  generalize skipN u p = a at *
  obtain ⟨a, f⟩ := a
  simp only at *
  by_cases h1 : f = false
  · rw [if_pos h1, if_pos h1]; rfl
  rw [if_neg h1, if_neg h1, if_neg h1]
  have ha : a < u.size := hc.resolve_left h1
  rw [if_neg (show ¬ ¬ d + a < t.size by omega), if_neg (show ¬ ¬ a < u.size by omega), h.byt_ ha, h.glue hle, show d + a + 1 = d + (a + 1) from rfl, h.ext (by omega) (show a + 1 ≤ u.size by omega)]
  by_cases h3 : byt u a = 10
  · rw [if_pos h3, if_pos h3]
    simp [shN, shT]
  rw [if_neg h3, if_neg h3]
  by_cases h4 : byt u a = 46 ∨ byt u a = 45
  · rw [if_pos h4, if_pos h4]
    simp [shN, shT]
  rw [if_neg h4, if_neg h4]
  have g1 := stp_ge u digB a
  have g2 := stp_ge u eitherB a
  have g3 := stp_le u digB a hle
  have g4 := stp_le u eitherB a hle
  rw [h.stop (G := digB) rfl a hle, h.stop (G := eitherB) rfl a hle, h.ext g1 g3, h.ext g2 g4]
  by_cases h5 : digZ (byt u a : Int) = true
  · rw [if_pos h5, if_pos h5]
    by_cases h6 : byt u a = 48 ∧ a + 1 < stp u digB a
    · rw [if_pos h6, if_pos ⟨h6.1, by omega⟩]
      simp [shN, shT]
    rw [if_neg h6, if_neg (by omega)]
    split
    · simp [shN, shT]
    · simp [shN, shT]
  rw [if_neg h5, if_neg h5]
  by_cases h6 : stp u eitherB a = a
  · rw [if_pos h6, if_pos (by omega)]
    simp [shN, shT]
  rw [if_neg h6, if_neg (by omega)]
  by_cases h7 : a + 24 < stp u eitherB a
  · rw [if_pos h7, if_pos (by omega), h.long h7]
    simp [shN, shT]
  · rw [if_neg h7, if_neg (by omega)]
    simp [shN, shT]
/-- at its end -/
theorem next_end {u : ByteArray} {p : Nat} (hc : ¬ ((skipN u p).2 = false ∨ (skipN u p).1 < u.size)) (hp : p ≤ u.size) : nextN u p = (⟨5, u.size, ⟨#[]⟩, false⟩, u.size, 0) := by
  rw [not_or] at hc
  have hle := skip_le u p hp
  have e : (skipN u p).1 = u.size := by omega
  unfold nextN
  rw [if_neg hc.1, if_pos hc.2, e]
theorem Emb.ending (h : Emb u t d) {p : Nat} (hp : p ≤ u.size) (hc : ¬ ((skipN u p).2 = false ∨ (skipN u p).1 < u.size)) :
    nextN t (d + p) = if d + u.size < t.size then (⟨4, d + u.size, ⟨#[10]⟩, false⟩, d + u.size + 1, 0) else (⟨5, t.size, ⟨#[]⟩, false⟩, t.size, 0) := by
  have hs := h.size
  rw [not_or] at hc
  have hle := skip_le u p hp
  have e : (skipN u p).1 = u.size := by omega
  have hsk := h.skip hp
  rw [e] at hsk
  by_cases ht : d + u.size < t.size
  · rw [if_pos ht]
    unfold nextN
    rw [hsk]
    simp only
    rw [if_neg hc.1, if_neg (by omega), if_pos (h.ends ht)]
    have hx : t.extract (d + u.size) (d + u.size + 1) = ⟨#[10]⟩ := by
      have z1 : (t.extract (d + u.size) (d + u.size + 1)).size = 1 := by rw [ByteArray.size_extract]; omega
      refine ByteArray.ext_getElem (by rw [z1]; rfl) (fun k h1 h2 => ?_)
      obtain rfl : k = 0 := by omega
      rw [ByteArray.getElem_extract, ← get_lt (by omega), Nat.add_zero]
      exact UInt8.toNat_inj.1 (h.ends ht)
    rw [hx]
    rfl
  · rw [if_neg ht]
    refine next_end (p := d + p) ?_ (by omega)
    rw [hsk]
    simp only
    rw [not_or]
    exact ⟨hc.1, by omega⟩
/-- the tokens of a text that ends another one -/
theorem Emb.run_last (h : Emb u t d) (he : d + u.size = t.size) : ∀ n p, p ≤ u.size → u.size - p ≤ n → runN t (d + p) = ((runN u p).1.map (shT d), d + (runN u p).2.1, (runN u p).2.2) := by
  intro n
  induction n with
  | zero => 
    intro p hp hn
    obtain rfl : p = u.size := by omega
    have hc := next_cases u u.size (Nat.le_refl _)
    by_cases hk : (skipN u u.size).2 = false ∨ (skipN u u.size).1 < u.size
    · have hx := h.next hp hk
      by_cases h0 : (nextN u u.size).2.2 = 0
      · by_cases h5 : (nextN u u.size).1.kind = 5
        · rw [run_stop hp h0 h5, run_stop (by omega) (by rw [hx]; exact h0) (by rw [hx]; unfold shN; rw [if_pos h0]; exact h5), ← he]
          rfl
        · have := hc.2 h0 h5; omega
      · rw [run_err hp h0, run_err (by omega) (by rw [hx]; exact h0), hx]
        rfl
    · have e1 := next_end hk hp
      have e2 := h.ending hp hk
      rw [if_neg (by omega)] at e2
      rw [run_stop hp (by rw [e1]) (by rw [e1]), run_stop (by omega) (by rw [e2]) (by rw [e2]), ← he]
      rfl
  | succ n ih =>
    intro p hp hn
    have hc := next_cases u p hp
    by_cases hk : (skipN u p).2 = false ∨ (skipN u p).1 < u.size
    · have hx := h.next hp hk
      by_cases h0 : (nextN u p).2.2 = 0
      · have hs1 : (shN d (nextN u p)).1 = shT d (nextN u p).1 := by unfold shN; rw [if_pos h0]
        by_cases h5 : (nextN u p).1.kind = 5
        · rw [run_stop hp h0 h5, run_stop (by omega) (by rw [hx]; exact h0) (by rw [hx, hs1]; exact h5), ← he]
          rfl
        · obtain ⟨g1, g2⟩ := hc.2 h0 h5
          rw [run_more hp h0 h5, run_more (by omega) (by rw [hx]; exact h0) (by rw [hx, hs1]; exact h5), hx, hs1, show (shN d (nextN u p)).2.1 = d + (nextN u p).2.1 from rfl, ih _ g2 (by omega)]
          simp only
          split
          · rfl
          · rfl
      · rw [run_err hp h0, run_err (by omega) (by rw [hx]; exact h0), hx]
        rfl
    · have e1 := next_end hk hp
      have e2 := h.ending hp hk
      rw [if_neg (by omega)] at e2
      rw [run_stop hp (by rw [e1]) (by rw [e1]), run_stop (by omega) (by rw [e2]) (by rw [e2]), ← he]
      rfl
/-- the tokens of a text behind which there is a line feed -/
theorem Emb.run_first (h : Emb u t d) (he : d + u.size < t.size) : ∀ n p, p ≤ u.size → u.size - p ≤ n → runN t (d + p) =
    if (runN u p).2.2 = 0 then (if (runN t (d + u.size + 1)).2.2 = 0 then ((runN u p).1.map (shT d) ++ ⟨4, d + u.size, ⟨#[10]⟩, false⟩ :: (runN t (d + u.size + 1)).1, (runN t (d + u.size + 1)).2.1, 0) else ([], (runN t (d + u.size + 1)).2.1, (runN t (d + u.size + 1)).2.2)) else ([], d + (runN u p).2.1, (runN u p).2.2) := by
  have fin : ∀ p, p ≤ u.size → ¬ ((skipN u p).2 = false ∨ (skipN u p).1 < u.size) → runN t (d + p) =
    if (runN u p).2.2 = 0 then (if (runN t (d + u.size + 1)).2.2 = 0 then ((runN u p).1.map (shT d) ++ ⟨4, d + u.size, ⟨#[10]⟩, false⟩ :: (runN t (d + u.size + 1)).1, (runN t (d + u.size + 1)).2.1, 0) else ([], (runN t (d + u.size + 1)).2.1, (runN t (d + u.size + 1)).2.2)) else ([], d + (runN u p).2.1, (runN u p).2.2) := by
    intro p hp hk
    have e1 := next_end hk hp
    have e2 := h.ending hp hk
    rw [if_pos he] at e2
    rw [run_stop hp (by rw [e1]) (by rw [e1]), run_more (by omega) (by rw [e2]) (by rw [e2]; show (4 : Int) ≠ 5; decide), e2]
    rfl
  intro n
  induction n with
  | zero =>
    intro p hp hn
    obtain rfl : p = u.size := by omega
    by_cases hk : (skipN u u.size).2 = false ∨ (skipN u u.size).1 < u.size
    · have hx := h.next hp hk
      have hc := next_cases u u.size (Nat.le_refl _)
      by_cases h0 : (nextN u u.size).2.2 = 0
      · exfalso
        have hle := skip_le u u.size hp
        have hge := skip_ge u u.size
        rcases hk with hk | hk
        · unfold nextN at h0
          rw [if_pos hk] at h0
          cases h0
        · omega
      · rw [run_err hp h0, run_err (by omega) (by rw [hx]; exact h0), hx, if_neg h0]
        rfl
    · exact fin _ hp hk
  | succ n ih =>
    intro p hp hn
    have hc := next_cases u p hp
    by_cases hk : (skipN u p).2 = false ∨ (skipN u p).1 < u.size
    · have hx := h.next hp hk
      by_cases h0 : (nextN u p).2.2 = 0
      · have hs1 : (shN d (nextN u p)).1 = shT d (nextN u p).1 := by unfold shN; rw [if_pos h0]
        have h5 : (nextN u p).1.kind ≠ 5 := by
          rcases hk with hk | hk
          · unfold nextN at h0
            rw [if_pos hk] at h0
            cases h0
          · unfold nextN
            split
            · show (0 : Int) ≠ 5; decide
            · repeat' split
              all_goals first
                | (show (0 : Int) ≠ 5; decide)
                | (show (1 : Int) ≠ 5; decide)
                | (show (2 : Int) ≠ 5; decide)
                | (show (3 : Int) ≠ 5; decide)
                | (show (4 : Int) ≠ 5; decide)
        obtain ⟨g1, g2⟩ := hc.2 h0 h5
        rw [run_more hp h0 h5, run_more (by omega) (by rw [hx]; exact h0) (by rw [hx, hs1]; exact h5), hx, hs1, show (shN d (nextN u p)).2.1 = d + (nextN u p).2.1 from rfl, ih _ g2 (by omega)]
        by_cases r0 : (runN u (nextN u p).2.1).2.2 = 0
        · by_cases q0 : (runN t (d + u.size + 1)).2.2 = 0
          · simp [r0, q0]
          · simp [r0, q0]
        · simp [r0]
      · rw [run_err hp h0, run_err (by omega) (by rw [hx]; exact h0), hx, if_neg h0]
        rfl
    · exact fin _ hp hk
end
theorem emb_left (a b : ByteArray) : Emb a (a ++ ⟨#[10]⟩ ++ b) 0 := by
  have z : (a ++ ⟨#[10]⟩ ++ b).size = a.size + 1 + b.size := by rw [ByteArray.size_append, ByteArray.size_append]; rfl
  have z' : (a ++ (⟨#[10]⟩ : ByteArray)).size = a.size + 1 := by rw [ByteArray.size_append]; rfl
  refine ⟨by omega, fun i hi => ?_, fun _ => ?_, fun h => absurd h (by decide)⟩
  · rw [Nat.zero_add, get_lt (by omega), get_lt hi, ByteArray.getElem_append_left (by omega), ByteArray.getElem_append_left hi]
  · unfold byt
    rw [Nat.zero_add, get_lt (by omega), ByteArray.getElem_append_left (by omega), ByteArray.getElem_append_right (Nat.le_refl _)]
    simp only [Nat.sub_self]
    rfl
theorem emb_right (a b : ByteArray) : Emb b (a ++ ⟨#[10]⟩ ++ b) (a.size + 1) := by
  have z : (a ++ ⟨#[10]⟩ ++ b).size = a.size + 1 + b.size := by rw [ByteArray.size_append, ByteArray.size_append]; rfl
  have z' : (a ++ (⟨#[10]⟩ : ByteArray)).size = a.size + 1 := by rw [ByteArray.size_append]; rfl
  refine ⟨by omega, fun i hi => ?_, fun h => ?_, fun _ => ?_⟩
  · rw [get_lt (by omega), get_lt hi, ByteArray.getElem_append_right (by omega)]
    congr 1
    omega
  · omega
  · unfold byt
    rw [Nat.add_sub_cancel, get_lt (by omega), ByteArray.getElem_append_left (by omega), ByteArray.getElem_append_right (Nat.le_refl _)]
    simp only [Nat.sub_self]
    rfl
theorem shT_zero (x : Tok) : shT 0 x = x := by
  obtain ⟨k, p, u, g⟩ := x
  simp [shT]
/-- the tokens of two texts with a line feed between -/
theorem all_joined (a b : ByteArray) : allN (a ++ ⟨#[10]⟩ ++ b) =
    if (allN a).2.2 = 0 then (if (allN b).2.2 = 0 then ((allN a).1 ++ ⟨4, a.size, ⟨#[10]⟩, false⟩ :: (allN b).1.map (shT (a.size + 1)), a.size + 1 + (allN b).2.1, 0) else ([], a.size + 1 + (allN b).2.1, (allN b).2.2)) else ([], (allN a).2.1, (allN a).2.2) := by
  have z : (a ++ ⟨#[10]⟩ ++ b).size = a.size + 1 + b.size := by rw [ByteArray.size_append, ByteArray.size_append]; rfl
  have h1 := (emb_left a b).run_first (by omega) a.size 0 (Nat.zero_le _) (Nat.le_refl _)
  have h2 := (emb_right a b).run_last (by omega) b.size 0 (Nat.zero_le _) (Nat.le_refl _)
  rw [Nat.add_zero] at h2
  simp only [Nat.zero_add, Nat.add_zero] at h1
  unfold allN
  rw [h1, h2]
  have hm : (runN a 0).1.map (shT 0) = (runN a 0).1 := by
    rw [show shT 0 = id from funext shT_zero, List.map_id]
  rw [hm]
  by_cases r0 : (runN a 0).2.2 = 0
  · by_cases q0 : (runN b 0).2.2 = 0
    · simp [r0, q0]
    · simp [r0, q0]
  · simp [r0]
theorem run_size (s : ByteArray) : ∀ n p, p ≤ s.size → s.size - p ≤ n → (runN s p).2.2 = 0 → (runN s p).2.1 = s.size := by
  intro n
  induction n with
  | zero =>
    intro p hp hn h
    have hc := next_cases s p hp
    by_cases h0 : (nextN s p).2.2 = 0
    · by_cases h5 : (nextN s p).1.kind = 5
      · rw [run_stop hp h0 h5]
      · have := hc.2 h0 h5; omega
    · rw [run_err hp h0] at h
      exact absurd h h0
  | succ n ih =>
    intro p hp hn h
    have hc := next_cases s p hp
    by_cases h0 : (nextN s p).2.2 = 0
    · by_cases h5 : (nextN s p).1.kind = 5
      · rw [run_stop hp h0 h5]
      · obtain ⟨g1, g2⟩ := hc.2 h0 h5
        rw [run_more hp h0 h5] at h ⊢
        by_cases r0 : (runN s (nextN s p).2.1).2.2 = 0
        · rw [if_pos r0]
          exact ih _ g2 (by omega) r0
        · rw [if_neg r0] at h
          exact absurd h r0
    · rw [run_err hp h0] at h
      exact absurd h h0
end Go.Proofs.YtlianjnmfgakkaaDoor
