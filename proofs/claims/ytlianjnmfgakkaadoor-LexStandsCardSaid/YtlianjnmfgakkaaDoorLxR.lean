/- Tokens that are spelled are read again as the same (plain). -/
import Derived.Test.YtlianjnmfgakkaaDoorLxE
namespace Go.Proofs.YtlianjnmfgakkaaDoor

theorem get_left {a b : ByteArray} {i : Nat} (h : i < a.size) : (a ++ b).get! i = a.get! i := by
  have z : (a ++ b).size = a.size + b.size := ByteArray.size_append
  rw [get_lt (by omega), get_lt h, ByteArray.getElem_append_left h]
theorem get_right {a b : ByteArray} {i : Nat} (h : i < b.size) : (a ++ b).get! (a.size + i) = b.get! i := by
  have z : (a ++ b).size = a.size + b.size := ByteArray.size_append
  rw [get_lt (by omega), get_lt h, ByteArray.getElem_append_right (by omega)]
  congr 1
  omega
theorem byt_cut {s : ByteArray} {q e i : Nat} (he : e ≤ s.size) (hi : q + i < e) : byt (s.extract q e) i = byt s (q + i) := by
  have z : (s.extract q e).size = e - q := by rw [ByteArray.size_extract]; omega
  unfold byt
  rw [get_lt (by omega), get_lt (by omega), ByteArray.getElem_extract]
theorem get_cut {s : ByteArray} {q e i : Nat} (he : e ≤ s.size) (hi : q + i < e) : (s.extract q e).get! i = s.get! (q + i) := by
  have z : (s.extract q e).size = e - q := by rw [ByteArray.size_extract]; omega
  rw [get_lt (by omega), get_lt (by omega), ByteArray.getElem_extract]
/-- what goes on, seen by itself -/
theorem stp_cut {s : ByteArray} {G : Nat → Bool} {q e : Nat} (hqe : q ≤ e) (he : e ≤ s.size) : ∀ p, q ≤ p → stp s G p = e → stp (s.extract q e) G (p - q) = e - q := by
  have z : (s.extract q e).size = e - q := by rw [ByteArray.size_extract]; omega
  refine rune_ind s (fun p hp hq h => ?_) (fun p hp ih hq h => ?_)
  · rw [stp_end hp] at h
    subst h
    exact stp_end (by omega)
  · cases hg : (okR s p && G (rune s p)) with
    | false =>
      rw [stp_out hg] at h
      subst h
      exact stp_end (by omega)
    | true =>
      rw [Bool.and_eq_true] at hg
      rw [stp_go hp hg.1 hg.2] at h
      have hw := stp_ge s G (p + width s p)
      have hw1 := width_pos s p
      rw [h] at hw
      obtain ⟨e1, e2, e3⟩ := decode_part (s := s) (t := s.extract q e) (p := p) (q := p - q) (m := e - p) (by omega) (by omega) (fun i hi => by rw [get_cut he (by omega)]; congr 1; omega) hg.1 (by omega)
      have := ih (by omega) h
      rw [stp_go (p := p - q) (by omega) e3 (by rw [e1]; exact hg.2), e2, show p - q + width s p = p + width s p - q by omega]
      exact this
/-- what goes on, within another text -/
theorem stp_put {u t : ByteArray} {G : Nat → Bool} {q : Nat} (hs : q + u.size ≤ t.size) (hb : ∀ i, i < u.size → t.get! (q + i) = u.get! i) (ho : q + u.size < t.size → (okR t (q + u.size) && G (rune t (q + u.size))) = false) : ∀ p, p ≤ u.size → stp u G p = u.size → stp t G (q + p) = q + u.size := by
  refine rune_ind u (fun p hp hq h => ?_) (fun p hp ih hq h => ?_)
  · obtain rfl : p = u.size := by omega
    by_cases ht : q + u.size < t.size
    · exact stp_out (ho ht)
    · exact stp_end ht
  · cases hg : (okR u p && G (rune u p)) with
    | false =>
      rw [stp_out hg] at h
      omega
    | true =>
      rw [Bool.and_eq_true] at hg
      rw [stp_go hp hg.1 hg.2] at h
      have hw := width_in hp
      obtain ⟨e1, e2, e3⟩ := decode_part (s := u) (t := t) (p := p) (q := q + p) (m := u.size - p) (by omega) (by omega) (fun i hi => by rw [Nat.add_assoc]; exact hb _ (by omega)) hg.1 (by omega)
      have := ih (by omega) h
      rw [stp_go (p := q + p) (by omega) e3 (by rw [e1]; exact hg.2), e2, Nat.add_assoc]
      exact this
/-- a token by itself -/
structure TokOK (x : Tok) : Prop where
  pos : 0 < x.text.size
  kind : (x.kind = 4 ∧ x.text = ⟨#[10]⟩ ∧ x.glued = false) ∨ (x.kind = 3 ∧ (x.text = ⟨#[46]⟩ ∨ x.text = ⟨#[45]⟩)) ∨
    (x.kind = 2 ∧ digZ (byt x.text 0 : Int) = true ∧ stp x.text digB 0 = x.text.size ∧ ¬ (byt x.text 0 = 48 ∧ 1 < x.text.size) ∧ fitB x.text = true) ∨
    (x.kind = 1 ∧ digZ (byt x.text 0 : Int) = false ∧ stp x.text eitherB 0 = x.text.size ∧ x.text.size ≤ 24)
theorem one_byte {s : ByteArray} {q : Nat} (h : q < s.size) {c : UInt8} (hb : byt s q = c.toNat) : s.extract q (q + 1) = ⟨#[c]⟩ := by
  have z1 : (s.extract q (q + 1)).size = 1 := by rw [ByteArray.size_extract]; omega
  refine ByteArray.ext_getElem (by rw [z1]; rfl) (fun k h1 h2 => ?_)
  obtain rfl : k = 0 := by omega
  rw [ByteArray.getElem_extract, ← get_lt (by omega), Nat.add_zero]
  exact UInt8.toNat_inj.1 hb
theorem TokAt.ok {s : ByteArray} {p q e : Nat} {x : Tok} (h : TokAt s p q e x) : TokOK x := by
  have h1 := h.lt
  have h2 := h.le
  have ht := h.text
  have z : x.text.size = e - q := by rw [ht, ByteArray.size_extract]; omega
  have hb : byt x.text 0 = byt s q := by rw [ht]; exact byt_cut h2 (by omega)
  refine ⟨by omega, ?_⟩
  rcases h.kind with ⟨k1, k2, k3, k4⟩ | ⟨k1, k2, k3, k4⟩ | ⟨k1, k2, k3, k4, k5, k6⟩ | ⟨k1, k2, k3, k4, k5, k6, k7, k8⟩
  · exact .inl ⟨k1, by rw [ht, k3]; exact one_byte (by omega) k2, k4⟩
  · refine .inr (.inl ⟨k1, ?_⟩)
    rw [ht, k3]
    exact k2.imp (fun h => one_byte (by omega) h) (fun h => one_byte (by omega) h)
  · refine .inr (.inr (.inl ⟨k1, by rw [hb]; exact k2, ?_, by rw [hb, z]; omega, k5⟩))
    have := stp_cut (G := digB) (Nat.le_of_lt h1) h2 q (Nat.le_refl _) k3.symm
    rw [Nat.sub_self] at this
    rw [ht, this, ← ht, z]
  · refine .inr (.inr (.inr ⟨k1, by rw [hb]; exact k5, ?_, by omega⟩))
    have := stp_cut (G := eitherB) (Nat.le_of_lt h1) h2 q (Nat.le_refl _) k6.symm
    rw [Nat.sub_self] at this
    rw [ht, this, ← ht, z]
/-- a byte by which a token of a kind goes no further -/
def stopsB (k : Int) (c : Nat) : Prop := (k = 1 → c < 128 ∧ eitherB c = false) ∧ (k = 2 → digB c = false)
/-- tokens in a row, behind another one -/
def Chain : Option Tok → List Tok → Prop
  | _, [] => True
  | o, x :: l => TokOK x ∧ (x.glued = true → ∃ y, o = some y ∧ y.kind ≠ 4 ∧ blankB (byt y.text (y.text.size - 1)) = false ∧ byt y.text (y.text.size - 1) ≠ 10 ∧ stopsB y.kind (byt x.text 0)) ∧ Chain (some x) l
def prevOK (s : ByteArray) (p : Nat) : Option Tok → Prop
  | none => p = 0
  | some y => TokOK y ∧ 0 < p ∧ byt y.text (y.text.size - 1) = byt s (p - 1) ∧ (y.kind = 1 → p < s.size → (okR s p && eitherB (rune s p)) = false) ∧ (y.kind = 2 → p < s.size → (okR s p && digB (rune s p)) = false)
theorem stp_next {s : ByteArray} {G : Nat → Bool} {p e : Nat} (h : e = stp s G p) (hlt : p < e) : (okR s p && G (rune s p)) = true := by
  cases hg : (okR s p && G (rune s p)) with
  | true => rfl
  | false =>
    rw [stp_out hg] at h
    omega
theorem dig_small {c : Nat} (h : digZ (c : Int) = true) : 48 ≤ c ∧ c ≤ 57 := by
  unfold digZ at h
  simp at h
  omega
theorem run_chain (s : ByteArray) : ∀ p, p ≤ s.size → ∀ o, prevOK s p o → Chain o (runN s p).1 := by
  refine run_ind s (M := fun p R => ∀ o, prevOK s p o → Chain o R.1) (fun p hp h0 h5 o _ => trivial) (fun p hp h0 o _ => trivial) (fun p hp h0 hk ih o ho => ?_)
  split
  case isFalse => exact trivial
  have h1 := hk.ge
  have h2 := hk.lt
  have h3 := hk.le
  have hok := hk.ok
  have z : (nextN s p).1.text.size = (nextN s p).2.1 - (skipN s p).1 := by rw [hk.text, ByteArray.size_extract]; omega
  have hb : byt (nextN s p).1.text 0 = byt s (skipN s p).1 := by rw [hk.text]; exact byt_cut h3 (by omega)
  refine ⟨hok, fun hg => ?_, ih _ ⟨hok, by omega, ?_, fun h hlt => ?_, fun h hlt => ?_⟩⟩
  · have hgl : glueN s p (skipN s p).1 = true := by
      rcases hk.kind with ⟨k1, k2, k3, k4⟩ | ⟨k1, k2, k3, k4⟩ | ⟨k1, k2, k3, k4, k5, k6⟩ | ⟨k1, k2, k3, k4, k5, k6, k7, k8⟩
      · rw [k4] at hg; cases hg
      · rw [← k4]; exact hg
      · rw [← k6]; exact hg
      · rw [← k8]; exact hg
    unfold glueN at hgl
    simp only [Bool.and_eq_true, decide_eq_true_eq, Bool.not_eq_true', decide_eq_false_iff_not] at hgl
    obtain ⟨g1, g2, g3, g4⟩ := hgl
    cases o with
    | none =>
      have : p = 0 := ho
      omega
    | some y =>
      obtain ⟨o1, o2, o3, o4, o5⟩ := ho
      rw [g1] at g2 g3 g4
      have hlt : p < s.size := by omega
      refine ⟨y, rfl, ?_, by rw [o3]; exact g3, by rw [o3]; exact g4, fun hy => ?_, fun hy => ?_⟩
      · intro h4
        rcases o1.kind with ⟨_, e, _⟩ | ⟨e, _⟩ | ⟨e, _⟩ | ⟨e, _⟩
        · rw [e] at o3
          exact g4 o3.symm
        all_goals (rw [e] at h4; cases h4)
      · have hs := o4 hy hlt
        rw [hb, g1]
        rcases hk.kind with ⟨k1, k2, k3, k4⟩ | ⟨k1, k2, k3, k4⟩ | ⟨k1, k2, k3, k4, k5, k6⟩ | ⟨k1, k2, k3, k4, k5, k6, k7, k8⟩
        · rw [k4] at hg; cases hg
        · rw [g1] at k2
          rcases k2 with k2 | k2
          · rw [k2]; exact ⟨by decide, rfl⟩
          · rw [k2]; exact ⟨by decide, rfl⟩
        · rw [g1] at k2
          have hd := dig_small k2
          obtain ⟨r1, _, r3⟩ := rune_small (s := s) (p := p) (by show byt s p < 128; omega)
          rw [r1, r3, Bool.true_and] at hs
          have : eitherB (byt s p) = true := by show (letZ _ || digZ _) = true; rw [k2, Bool.or_true]
          rw [show (s.get! p).toNat = byt s p from rfl, this] at hs
          cases hs
        · rw [g1] at k6
          have := stp_next k6 (by omega)
          rw [hs] at this
          cases this
      · have hs := o5 hy hlt
        rw [hb, g1]
        rcases hk.kind with ⟨k1, k2, k3, k4⟩ | ⟨k1, k2, k3, k4⟩ | ⟨k1, k2, k3, k4, k5, k6⟩ | ⟨k1, k2, k3, k4, k5, k6, k7, k8⟩
        · rw [k4] at hg; cases hg
        · rw [g1] at k2
          rcases k2 with k2 | k2
          · rw [k2]; rfl
          · rw [k2]; rfl
        · rw [g1] at k3
          have := stp_next k3 (by omega)
          rw [hs] at this
          cases this
        · rw [g1] at k5
          exact k5
  · rw [z, hk.text, byt_cut h3 (by omega)]
    congr 1
    omega
  · rcases hk.kind with ⟨k1, _⟩ | ⟨k1, _⟩ | ⟨k1, _⟩ | ⟨k1, k2, k3, k4, k5, k6, k7, k8⟩
    · rw [k1] at h; cases h
    · rw [k1] at h; cases h
    · rw [k1] at h; cases h
    · rw [k6] at hlt ⊢
      exact stp_stop s eitherB _ hlt
  · rcases hk.kind with ⟨k1, _⟩ | ⟨k1, _⟩ | ⟨k1, k2, k3, k4, k5, k6⟩ | ⟨k1, _⟩
    · rw [k1] at h; cases h
    · rw [k1] at h; cases h
    · rw [k3] at hlt ⊢
      exact stp_stop s digB _ hlt
    · rw [k1] at h; cases h
/-- how a token's text begins -/
theorem TokOK.first {x : Tok} (h : TokOK x) : blankB (byt x.text 0) = false ∧ byt x.text 0 ≠ 35 ∧ (x.kind = 1 → byt x.text 0 ≠ 10 ∧ byt x.text 0 ≠ 46 ∧ byt x.text 0 ≠ 45) := by
  have hp := h.pos
  rcases h.kind with ⟨k1, k2, k3⟩ | ⟨k1, k2⟩ | ⟨k1, k2, k3, k4, k5⟩ | ⟨k1, k2, k3, k4⟩
  · rw [k2, k1]
    exact ⟨rfl, by decide, fun h => by cases h⟩
  · rcases k2 with k2 | k2
    · rw [k2, k1]
      exact ⟨rfl, by decide, fun h => by cases h⟩
    · rw [k2, k1]
      exact ⟨rfl, by decide, fun h => by cases h⟩
  · have hd := dig_small k2
    rw [k1]
    refine ⟨?_, by omega, fun h => by cases h⟩
    unfold blankB
    rw [decide_eq_false (by omega), decide_eq_false (by omega)]
    rfl
  · have hn := stp_next k3.symm hp
    rw [Bool.and_eq_true] at hn
    by_cases hs : byt x.text 0 < 128
    · rw [(rune_small (s := x.text) (p := 0) hs).1, show (x.text.get! 0).toNat = byt x.text 0 from rfl] at hn
      have hne : ∀ c : Nat, eitherB c = false → byt x.text 0 ≠ c := fun c hc e => by
        rw [e, hc] at hn
        cases hn.2
      refine ⟨?_, hne 35 rfl, fun _ => ⟨hne 10 rfl, hne 46 rfl, hne 45 rfl⟩⟩
      unfold blankB
      rw [decide_eq_false (hne 32 rfl), decide_eq_false (hne 9 rfl)]
      rfl
    · refine ⟨?_, by omega, fun _ => ⟨by omega, by omega, by omega⟩⟩
      unfold blankB
      rw [decide_eq_false (by omega), decide_eq_false (by omega)]
      rfl
theorem not_rune {t : ByteArray} {q : Nat} {G : Nat → Bool} (hG : byt t q < 128 → G (byt t q) = false) (hL : ∀ c, 128 ≤ c → ¬ byt t q < 128 → G c = false) : (okR t q && G (rune t q)) = false := by
  by_cases h : byt t q < 128
  · rw [(rune_small (s := t) (p := q) h).1, show (t.get! q).toNat = byt t q from rfl, hG h, Bool.and_false]
  · rw [hL _ (rune_large (s := t) (p := q) h) h, Bool.and_false]
theorem blank_large (c : Nat) (h : 128 ≤ c) : blankB c = false := by
  unfold blankB
  rw [decide_eq_false (by omega), decide_eq_false (by omega)]
  rfl
theorem digB_large (c : Nat) (h : 128 ≤ c) : digB c = false := by
  cases hd : digB c with
  | false => rfl
  | true => have := dig_small hd; omega
/-- a token read where its text stands -/
theorem next_at {t : ByteArray} {d q : Nat} {x : Tok} (hx : TokOK x) (hsk : skipN t d = (q, true)) (hs : q + x.text.size ≤ t.size) (hb : ∀ i, i < x.text.size → t.get! (q + i) = x.text.get! i) (hf : q + x.text.size < t.size → stopsB x.kind (byt t (q + x.text.size))) :
    nextN t d = (⟨x.kind, (q : Int), x.text, if x.kind = 4 then false else glueN t d q⟩, q + x.text.size, 0) := by
  have hp := hx.pos
  have hb0 : byt t q = byt x.text 0 := congrArg UInt8.toNat (hb 0 hp)
  have hex : t.extract q (q + x.text.size) = x.text := by
    have z : (t.extract q (q + x.text.size)).size = x.text.size := by rw [ByteArray.size_extract]; omega
    refine ByteArray.ext_getElem z (fun k h1 h2 => ?_)
    rw [ByteArray.getElem_extract, ← get_lt (by omega), ← get_lt (by omega)]
    exact hb _ (by omega)
  obtain ⟨-, -, f3⟩ := hx.first
  unfold nextN
  rw [hsk]
  simp only
  rw [if_neg (by decide), if_neg (show ¬ ¬ q < t.size by omega), hb0]
  rcases hx.kind with ⟨k1, k2, k3⟩ | ⟨k1, k2⟩ | ⟨k1, k2, k3, k4, k5⟩ | ⟨k1, k2, k3, k4⟩
  · have hz : x.text.size = 1 := by rw [k2]; rfl
    rw [hz] at hex
    have hc : byt x.text 0 = 10 := by rw [k2]; rfl
    rw [if_pos hc, hex, hz, k1, if_pos rfl]
  · have hz : x.text.size = 1 := by rcases k2 with k2 | k2 <;> (rw [k2]; rfl)
    rw [hz] at hex
    have hc : byt x.text 0 = 46 ∨ byt x.text 0 = 45 := k2.imp (fun h => by rw [h]; rfl) (fun h => by rw [h]; rfl)
    rw [if_neg (by omega), if_pos hc, hex, hz, k1, if_neg (by decide)]
  · have hd := dig_small k2
    have hst := stp_put (G := digB) hs hb (fun h => not_rune (fun _ => (hf h).2 k1) (fun c hc _ => digB_large c hc)) 0 (Nat.zero_le _) k3
    rw [Nat.add_zero] at hst
    rw [if_neg (by omega), if_neg (by omega), if_pos k2, hst, hex, if_neg (by omega), if_pos k5, k1, if_neg (by decide)]
  · obtain ⟨f1, f2, f4⟩ := f3 k1
    have hst := stp_put (G := eitherB) hs hb (fun h => not_rune (fun _ => ((hf h).1 k1).2) (fun c _ hn => absurd ((hf h).1 k1).1 hn)) 0 (Nat.zero_le _) k3
    rw [Nat.add_zero] at hst
    rw [if_neg f1, if_neg (not_or.2 ⟨f2, f4⟩), if_neg (by rw [k2]; decide), hst, if_neg (by omega), if_neg (by omega), hex, k1, if_neg (by decide)]
theorem skip_none {t : ByteArray} {d : Nat} (h1 : blankB (byt t d) = false) (h2 : byt t d ≠ 35) : skipN t d = (d, true) := by
  have e : stp t blankB d = d := stp_out (not_rune (fun _ => h1) (fun c hc _ => blank_large c hc))
  unfold skipN
  rw [e, if_neg (fun h => h2 h.2)]
theorem skip_one {t : ByteArray} {d : Nat} (hd : d < t.size) (h0 : byt t d = 32) (h1 : blankB (byt t (d + 1)) = false) (h2 : byt t (d + 1) ≠ 35) : skipN t d = (d + 1, true) := by
  obtain ⟨r1, r2, r3⟩ := rune_small (s := t) (p := d) (by show byt t d < 128; omega)
  have e : stp t blankB d = d + 1 := by
    rw [stp_go (G := blankB) hd r3 (by rw [r1]; show blankB (byt t d) = true; rw [h0]; rfl), r2]
    exact stp_out (not_rune (fun _ => h1) (fun c hc _ => blank_large c hc))
  unfold skipN
  rw [e, if_neg (fun h => h2 h.2)]
/-- a token, wherever it stands -/
def strip (x : Tok) : Tok := { x with pl := 0 }
theorem spell_strip : ∀ (b : Bool) (l : List Tok), spellF b (l.map strip) = spellF b l
  | _, [] => rfl
  | b, x :: l => by
    rw [List.map_cons]
    unfold spellF
    rw [spell_strip _ l]
    rfl
def bgn : Option Tok → Bool
  | none => true
  | some y => decide (y.kind = 4)
def prevAt (pre : ByteArray) : Option Tok → Prop
  | none => pre.size = 0
  | some y => TokOK y ∧ ∃ r, pre = r ++ y.text
/-- how the text of tokens behind a token begins -/
theorem spell_first {x : Tok} : ∀ {l : List Tok}, Chain (some x) l → 0 < (spellF (decide (x.kind = 4)) l).size → stopsB x.kind (byt (spellF (decide (x.kind = 4)) l) 0)
  | [], _, h => absurd h (by unfold spellF; decide)
  | z :: l, hc, _ => by
    obtain ⟨z1, z2, -⟩ := hc
    have hp := z1.pos
    unfold spellF
    by_cases hs : (!decide (x.kind = 4) && (!z.glued && !decide (z.kind = 4))) = true
    · rw [if_pos hs, ByteArray.append_assoc]
      have hb : byt ((⟨#[32]⟩ : ByteArray) ++ (z.text ++ spellF (decide (z.kind = 4)) l)) 0 = 32 := congrArg UInt8.toNat (get_left (a := ⟨#[32]⟩) (by decide))
      rw [hb]
      exact ⟨fun _ => ⟨by decide, rfl⟩, fun _ => rfl⟩
    · rw [if_neg hs, ByteArray.append_assoc]
      have hb : byt ((⟨#[]⟩ : ByteArray) ++ (z.text ++ spellF (decide (z.kind = 4)) l)) 0 = byt z.text 0 := by
        rw [show (⟨#[]⟩ : ByteArray) ++ (z.text ++ spellF (decide (z.kind = 4)) l) = z.text ++ spellF (decide (z.kind = 4)) l from ByteArray.empty_append]
        exact congrArg UInt8.toNat (get_left hp)
      rw [hb]
      by_cases hx4 : x.kind = 4
      · rw [hx4]
        exact ⟨fun h => (by cases h), fun h => (by cases h)⟩
      by_cases hg : z.glued = true
      · obtain ⟨y, hy, _, _, _, h5⟩ := z2 hg
        injection hy with hy
        rw [hy]
        exact h5
      have h4 : z.kind = 4 := by
        rcases Classical.em (z.kind = 4) with h | h
        · exact h
        · exfalso
          apply hs
          rw [decide_eq_false hx4, decide_eq_false h]
          simpa using hg
      rcases z1.kind with ⟨_, k2, _⟩ | ⟨k1, _⟩ | ⟨k1, _⟩ | ⟨k1, _⟩
      · rw [k2]
        exact ⟨fun _ => ⟨by decide, rfl⟩, fun _ => rfl⟩
      all_goals (rw [k1] at h4; cases h4)
theorem read_again : ∀ (l : List Tok) (o : Option Tok) (pre : ByteArray), Chain o l → prevAt pre o → ∃ l', runN (pre ++ spellF (bgn o) l) pre.size = (l', (pre ++ spellF (bgn o) l).size, 0) ∧ l'.map strip = l.map strip
  | [], o, pre, _, _ => by
    have z : (pre ++ spellF (bgn o) []).size = pre.size := by rw [ByteArray.size_append]; unfold spellF; rfl
    refine ⟨[], ?_, rfl⟩
    have hsk : skipN (pre ++ spellF (bgn o) []) pre.size = (pre.size, true) := by
      have e : stp (pre ++ spellF (bgn o) []) blankB pre.size = pre.size := stp_end (by omega)
      unfold skipN
      rw [e, if_neg (fun h => by have := h.1; omega)]
    have hn : nextN (pre ++ spellF (bgn o) []) pre.size = (⟨5, pre.size, ⟨#[]⟩, false⟩, pre.size, 0) := by
      unfold nextN
      rw [hsk]
      simp only
      rw [if_neg (by decide), if_pos (by omega)]
    rw [run_stop (by omega) (by rw [hn]) (by rw [hn])]
  | x :: l, o, pre, hc, hpre => by
    obtain ⟨x1, x2, x3⟩ := hc
    have hp := x1.pos
    obtain ⟨f1, f2, -⟩ := x1.first
    obtain ⟨R, hR⟩ : ∃ R, R = spellF (decide (x.kind = 4)) l := ⟨_, rfl⟩
    have hRf := spell_first x3
    rw [← hR] at hRf
    by_cases hs : (!bgn o && (!x.glued && !decide (x.kind = 4))) = true
    · have ht : pre ++ spellF (bgn o) (x :: l) = ((pre ++ ⟨#[32]⟩) ++ x.text) ++ R := by
        rw [hR]
        conv => lhs; unfold spellF
        rw [if_pos hs]
        simp only [ByteArray.append_assoc]
      have hz1 : (pre ++ (⟨#[32]⟩ : ByteArray)).size = pre.size + 1 := by rw [ByteArray.size_append]; rfl
      have hz2 : ((pre ++ ⟨#[32]⟩) ++ x.text).size = pre.size + 1 + x.text.size := by rw [ByteArray.size_append, hz1]
      have hz3 : (((pre ++ ⟨#[32]⟩) ++ x.text) ++ R).size = pre.size + 1 + x.text.size + R.size := by rw [ByteArray.size_append, hz2]
      obtain ⟨l', h1, h2⟩ := read_again l (some x) ((pre ++ ⟨#[32]⟩) ++ x.text) x3 ⟨x1, _, rfl⟩
      rw [show bgn (some x) = decide (x.kind = 4) from rfl, ← hR, hz2] at h1
      rw [ht]
      obtain ⟨t, ht'⟩ : ∃ t, t = ((pre ++ ⟨#[32]⟩) ++ x.text) ++ R := ⟨_, rfl⟩
      have hb : ∀ i, i < x.text.size → t.get! (pre.size + 1 + i) = x.text.get! i := fun i hi => by
        rw [ht', get_left (by omega), ← hz1, get_right hi]
      have hsp : byt t pre.size = 32 := by
        unfold byt
        rw [ht', get_left (by omega), get_left (by omega)]
        have := get_right (a := pre) (b := ⟨#[32]⟩) (i := 0) (by decide)
        rw [Nat.add_zero] at this
        rw [this]
        rfl
      have hb0 : byt t (pre.size + 1) = byt x.text 0 := congrArg UInt8.toNat (hb 0 hp)
      have hfl : pre.size + 1 + x.text.size < t.size → stopsB x.kind (byt t (pre.size + 1 + x.text.size)) := fun h => by
        rw [ht', hz3] at h
        have e : byt t (pre.size + 1 + x.text.size) = byt R 0 := by
          have := get_right (a := (pre ++ ⟨#[32]⟩) ++ x.text) (b := R) (i := 0) (by omega)
          rw [Nat.add_zero, hz2, ← ht'] at this
          exact congrArg UInt8.toNat this
        rw [e]
        exact hRf (by omega)
      rw [← ht'] at h1 hz3 ⊢
      have hsk := skip_one (t := t) (d := pre.size) (by omega) hsp (by rw [hb0]; exact f1) (by rw [hb0]; exact f2)
      have hn := next_at x1 hsk (by omega) hb hfl
      simp only [Bool.and_eq_true, Bool.not_eq_true', decide_eq_false_iff_not] at hs
      have h5 : x.kind ≠ 5 := by
        rcases x1.kind with ⟨k, _⟩ | ⟨k, _⟩ | ⟨k, _⟩ | ⟨k, _⟩ <;> (rw [k]; decide)
      refine ⟨(nextN t pre.size).1 :: l', ?_, ?_⟩
      · rw [run_more (by omega) (by rw [hn]) (by rw [hn]; exact h5)]
        rw [show (nextN t pre.size).2.1 = pre.size + 1 + x.text.size by rw [hn], h1, if_pos rfl]
      · rw [List.map_cons, List.map_cons, h2, hn, if_neg hs.2.2]
        congr 1
        unfold strip glueN
        rw [decide_eq_false (by omega), hs.2.1]
        rfl
    · have ht : pre ++ spellF (bgn o) (x :: l) = (pre ++ x.text) ++ R := by
        rw [hR]
        conv => lhs; unfold spellF
        rw [if_neg hs, show (⟨#[]⟩ : ByteArray) ++ x.text = x.text from ByteArray.empty_append]
        simp only [ByteArray.append_assoc]
      have hz2 : (pre ++ x.text).size = pre.size + x.text.size := by rw [ByteArray.size_append]
      have hz3 : ((pre ++ x.text) ++ R).size = pre.size + x.text.size + R.size := by rw [ByteArray.size_append, hz2]
      obtain ⟨l', h1, h2⟩ := read_again l (some x) (pre ++ x.text) x3 ⟨x1, _, rfl⟩
      rw [show bgn (some x) = decide (x.kind = 4) from rfl, ← hR, hz2] at h1
      rw [ht]
      obtain ⟨t, ht'⟩ : ∃ t, t = (pre ++ x.text) ++ R := ⟨_, rfl⟩
      have hb : ∀ i, i < x.text.size → t.get! (pre.size + i) = x.text.get! i := fun i hi => by
        rw [ht', get_left (by omega), get_right hi]
      have hb0 : byt t pre.size = byt x.text 0 := congrArg UInt8.toNat (hb 0 hp)
      have hfl : pre.size + x.text.size < t.size → stopsB x.kind (byt t (pre.size + x.text.size)) := fun h => by
        rw [ht', hz3] at h
        have e : byt t (pre.size + x.text.size) = byt R 0 := by
          have := get_right (a := pre ++ x.text) (b := R) (i := 0) (by omega)
          rw [Nat.add_zero, hz2, ← ht'] at this
          exact congrArg UInt8.toNat this
        rw [e]
        exact hRf (by omega)
      have hlast : 0 < pre.size → byt t (pre.size - 1) = byt pre (pre.size - 1) := fun h => by
        unfold byt
        rw [ht', get_left (by omega), get_left (by omega)]
      rw [← ht'] at h1 hz3 ⊢
      have hsk := skip_none (t := t) (d := pre.size) (by rw [hb0]; exact f1) (by rw [hb0]; exact f2)
      have hn := next_at x1 hsk (by omega) hb hfl
      have h5 : x.kind ≠ 5 := by
        rcases x1.kind with ⟨k, _⟩ | ⟨k, _⟩ | ⟨k, _⟩ | ⟨k, _⟩ <;> (rw [k]; decide)
      have hgl : (if x.kind = 4 then false else glueN t pre.size pre.size) = x.glued := by
        by_cases h4 : x.kind = 4
        · rw [if_pos h4]
          rcases x1.kind with ⟨_, _, k3⟩ | ⟨k, _⟩ | ⟨k, _⟩ | ⟨k, _⟩
          · exact k3.symm
          all_goals (rw [k] at h4; cases h4)
        · rw [if_neg h4]
          have hprev : ∀ y, o = some y → 0 < pre.size ∧ TokOK y ∧ byt t (pre.size - 1) = byt y.text (y.text.size - 1) := fun y hy => by
            subst hy
            obtain ⟨y1, r, hr⟩ := hpre
            have hyp := y1.pos
            have hrz : pre.size = r.size + y.text.size := by rw [hr, ByteArray.size_append]
            refine ⟨by omega, y1, ?_⟩
            rw [hlast (by omega)]
            unfold byt
            rw [hr, show (r ++ y.text).size - 1 = r.size + (y.text.size - 1) by rw [← hr]; omega, get_right (by omega)]
          cases hxg : x.glued with
          | true =>
            obtain ⟨y, hy, y2, y3, y4, _⟩ := x2 hxg
            obtain ⟨p1, _, p2⟩ := hprev y hy
            unfold glueN
            rw [decide_eq_true rfl, decide_eq_true p1, p2, y3, decide_eq_false y4]
            rfl
          | false =>
            have hb : bgn o = true := by
              cases hbo : bgn o with
              | true => rfl
              | false =>
                exfalso
                apply hs
                rw [hbo, hxg, decide_eq_false h4]
                rfl
            unfold glueN
            cases o with
            | none =>
              have : pre.size = 0 := hpre
              rw [decide_eq_false (show ¬ 0 < pre.size by omega), Bool.false_and, Bool.and_false]
            | some y =>
              obtain ⟨p1, y1, p2⟩ := hprev y rfl
              have hy4 : y.kind = 4 := of_decide_eq_true hb
              rcases y1.kind with ⟨_, k2, _⟩ | ⟨k, _⟩ | ⟨k, _⟩ | ⟨k, _⟩
              · rw [p2, k2, show byt (⟨#[10]⟩ : ByteArray) ((⟨#[10]⟩ : ByteArray).size - 1) = 10 from rfl, decide_eq_true (rfl : (10 : Nat) = 10), Bool.not_true, Bool.and_false, Bool.and_false, Bool.and_false]
              all_goals (rw [k] at hy4; cases hy4)
      refine ⟨(nextN t pre.size).1 :: l', ?_, ?_⟩
      · rw [run_more (by omega) (by rw [hn]) (by rw [hn]; exact h5)]
        rw [show (nextN t pre.size).2.1 = pre.size + x.text.size by rw [hn], h1, if_pos rfl]
      · rw [List.map_cons, List.map_cons, h2, hn]
        congr 1
        unfold strip
        simp only
        rw [hgl]
theorem all_again (s : ByteArray) : ∃ l', allN (spellN (allN s).1) = (l', (spellN (allN s).1).size, 0) ∧ l'.map strip = (allN s).1.map strip := by
  have hc := run_chain s 0 (Nat.zero_le _) none rfl
  obtain ⟨l', h1, h2⟩ := read_again _ none ⟨#[]⟩ hc rfl
  have e : (⟨#[]⟩ : ByteArray) ++ spellF (bgn none) (runN s 0).1 = spellN (allN s).1 := ByteArray.empty_append
  rw [e] at h1
  exact ⟨l', h1, h2⟩
theorem spell_small (s : ByteArray) : ∀ p, p ≤ s.size → ∀ b, (spellF b (runN s p).1).size ≤ 2 * (s.size - p) := by
  refine run_ind s (M := fun p R => ∀ b, (spellF b R.1).size ≤ 2 * (s.size - p)) (fun p hp h0 h5 b => Nat.zero_le _) (fun p hp h0 b => Nat.zero_le _) (fun p hp h0 hk ih b => ?_)
  split
  · have h1 := hk.ge
    have h2 := hk.lt
    have h3 := hk.le
    have z : (nextN s p).1.text.size = (nextN s p).2.1 - (skipN s p).1 := by rw [hk.text, ByteArray.size_extract]; omega
    have := ih (decide ((nextN s p).1.kind = 4))
    unfold spellF
    rw [ByteArray.size_append, ByteArray.size_append]
    split
    · rw [show ByteArray.size ⟨#[32]⟩ = 1 from rfl]; omega
    · rw [show ByteArray.size ⟨#[]⟩ = 0 from rfl]; omega
  · exact Nat.zero_le _
theorem all_texts (s : ByteArray) : ∀ p, p ≤ s.size → ∀ t ∈ (runN s p).1, t.text.size ≤ s.size := by
  refine run_ind s (M := fun p R => ∀ t ∈ R.1, t.text.size ≤ s.size) (fun p hp h0 h5 t ht => by cases ht) (fun p hp h0 t ht => by cases ht) (fun p hp h0 hk ih => ?_)
  split
  · intro t ht
    rcases List.mem_cons.1 ht with rfl | ht
    · have h3 := hk.le
      rw [hk.text, ByteArray.size_extract]
      omega
    · exact ih t ht
  · intro t ht
    cases ht
end Go.Proofs.YtlianjnmfgakkaaDoor
