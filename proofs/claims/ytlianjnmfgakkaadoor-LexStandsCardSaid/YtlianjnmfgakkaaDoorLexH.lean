/- The document's skip, word and number. -/
import Derived.Test.YtlianjnmfgakkaaDoorLexE
import Derived.Test.YtlianjnmfgakkaaDoorLxN
import Derived.Test.YtlianjnmfgakkaaDoorDigR3
namespace Go.Proofs.YtlianjnmfgakkaaDoor
open Go.RowKit

/-- the document's rune: -1 where bytes are wrong -/
def cz (s : ByteArray) (q : Nat) : Int := if okR s q = true then ((rune s q : Nat) : Int) else -1
def wz (s : ByteArray) (q : Nat) : Int := if okR s q = true then ((width s q : Nat) : Int) else 1
theorem cz_byte {s : ByteArray} {q b : Nat} (hb : b < 128) : cz s q = (b : Int) ↔ byt s q = b := by
  unfold cz byt
  have h1 := rune_byte (s := s) (p := q) hb
  by_cases ho : okR s q = true
  · rw [if_pos ho, ← h1]
    omega
  · rw [if_neg ho]
    constructor
    · intro h; omega
    · intro h
      exact absurd (rune_small (s := s) (p := q) (by omega)).2.2 ho
theorem cz_ok {s : ByteArray} {q : Nat} (h : 0 ≤ cz s q) : okR s q = true ∧ cz s q = ((rune s q : Nat) : Int) ∧ wz s q = ((width s q : Nat) : Int) := by
  unfold cz wz at *
  by_cases ho : okR s q = true
  · rw [if_pos ho, if_pos ho]; exact ⟨ho, rfl, rfl⟩
  · rw [if_neg ho] at h; omega
theorem cz_rem (s : ByteArray) (q : Nat) : (okR s q && remB (rune s q)) = (decide (32 ≤ cz s q) || decide (cz s q = 9)) := by
  unfold cz remB
  by_cases ho : okR s q = true
  · rw [if_pos ho, ho, Bool.true_and, Bool.eq_iff_iff, Bool.or_eq_true, Bool.or_eq_true, decide_eq_true_iff, decide_eq_true_iff, decide_eq_true_iff, decide_eq_true_iff]
    omega
  · rw [if_neg ho]
    simp at ho
    rw [ho]
    rfl
theorem cz_blank (s : ByteArray) (q : Nat) : (okR s q && blankB (rune s q)) = (decide (cz s q = 32) || decide (cz s q = 9)) := by
  unfold cz blankB
  by_cases ho : okR s q = true
  · rw [if_pos ho, ho, Bool.true_and, Bool.eq_iff_iff, Bool.or_eq_true, Bool.or_eq_true, decide_eq_true_iff, decide_eq_true_iff, decide_eq_true_iff, decide_eq_true_iff]
    omega
  · rw [if_neg ho]
    simp at ho
    rw [ho]
    rfl
theorem cz_either (s : ByteArray) (q : Nat) : (okR s q && eitherB (rune s q)) = (letZ (cz s q) || digZ (cz s q)) := by
  unfold cz
  by_cases ho : okR s q = true
  · rw [if_pos ho, ho, Bool.true_and]
  · rw [if_neg ho]
    simp at ho
    rw [ho]
    rfl
def remN (s : ByteArray) (q : Nat) : Nat × Bool := (stp s remB q, decide (stp s remB q = s.size) || decide (byt s (stp s remB q) = 10))
def ahead (s : ByteArray) (q : Nat) (i : Bool) : Nat × Bool := if i = true then remN s q else skipN s q
theorem ahead_end (s : ByteArray) (q : Nat) (i : Bool) (h : q = s.size) : ahead s q i = (q, true) := by
  unfold ahead
  cases i with
  | true =>
    rw [if_pos rfl]
    unfold remN
    rw [stp_end (by omega), decide_eq_true h]
    rfl
  | false =>
    rw [if_neg (by decide)]
    unfold skipN
    rw [stp_end (by omega), if_neg (by omega)]
theorem ahead_line {s : ByteArray} {q : Nat} (i : Bool) (hq : q < s.size) (h : cz s q = 10) : ahead s q i = (q, true) := by
  have hb := (cz_byte (s := s) (q := q) (b := 10) (by decide)).1 h
  have h1 : stp s remB q = q := stp_out (by rw [cz_rem, h]; rfl)
  have h2 : stp s blankB q = q := stp_out (by rw [cz_blank, h]; rfl)
  unfold ahead remN skipN
  rw [h1, h2, hb]
  cases i <;> simp
theorem ahead_bad {s : ByteArray} {q : Nat} (hq : q < s.size) (h : cz s q < 32) (h9 : cz s q ≠ 9) (h10 : cz s q ≠ 10) : ahead s q true = (q, false) := by
  have hb : byt s q ≠ 10 := fun e => h10 ((cz_byte (s := s) (q := q) (b := 10) (by decide)).2 e)
  have h1 : stp s remB q = q := stp_out (by rw [cz_rem, decide_eq_false (by omega), decide_eq_false h9]; rfl)
  unfold ahead remN
  rw [if_pos rfl, h1, decide_eq_false (by omega), decide_eq_false hb]
  rfl
theorem ahead_in {s : ByteArray} {q : Nat} (hq : q < s.size) (h : 32 ≤ cz s q ∨ cz s q = 9) : ahead s q true = ahead s (q + width s q) true ∧ wz s q = ((width s q : Nat) : Int) := by
  have ho := cz_ok (s := s) (q := q) (by omega)
  have h1 : (okR s q && remB (rune s q)) = true := by rw [cz_rem, Bool.or_eq_true, decide_eq_true_iff, decide_eq_true_iff]; exact h
  rw [Bool.and_eq_true] at h1
  unfold ahead remN
  rw [if_pos rfl, if_pos rfl, stp_go hq h1.1 h1.2]
  exact ⟨rfl, ho.2.2⟩
theorem ahead_blank {s : ByteArray} {q : Nat} (hq : q < s.size) (h : cz s q = 32 ∨ cz s q = 9) : ahead s q false = ahead s (q + width s q) false ∧ wz s q = ((width s q : Nat) : Int) := by
  have ho := cz_ok (s := s) (q := q) (by omega)
  have h1 : (okR s q && blankB (rune s q)) = true := by rw [cz_blank, Bool.or_eq_true, decide_eq_true_iff, decide_eq_true_iff]; exact h
  rw [Bool.and_eq_true] at h1
  unfold ahead skipN
  simp only [Bool.false_eq_true, if_false]
  rw [stp_go hq h1.1 h1.2]
  exact ⟨rfl, ho.2.2⟩
theorem ahead_mark {s : ByteArray} {q : Nat} (hq : q < s.size) (h : cz s q = 35) : ahead s q false = ahead s (q + width s q) true ∧ wz s q = ((width s q : Nat) : Int) := by
  have hb := (cz_byte (s := s) (q := q) (b := 35) (by decide)).1 h
  have h2 : stp s blankB q = q := stp_out (by rw [cz_blank, h]; rfl)
  rw [← (ahead_in hq (.inl (by omega))).1]
  refine ⟨?_, (ahead_in hq (.inl (by omega))).2⟩
  unfold ahead skipN remN
  rw [if_neg (by decide), if_pos rfl, h2, if_pos ⟨hq, hb⟩]
theorem ahead_else {s : ByteArray} {q : Nat} (h32 : cz s q ≠ 32) (h9 : cz s q ≠ 9) (h35 : cz s q ≠ 35) : ahead s q false = (q, true) := by
  have hb : byt s q ≠ 35 := fun e => h35 ((cz_byte (s := s) (q := q) (b := 35) (by decide)).2 e)
  have h2 : stp s blankB q = q := stp_out (by rw [cz_blank, decide_eq_false h32, decide_eq_false h9]; rfl)
  unfold ahead skipN
  rw [if_neg (by decide), h2, if_neg (fun h => hb h.2)]
set_option maxRecDepth 100000 in
set_option maxHeartbeats 4000000 in
theorem refSkip_any (s : ByteArray) (p : Nat) (hp : p ≤ s.size) (hm : s.size ≤ 1000000000) (w : World) :
    Calls Tryd.prog 35 #[.string s, .int .i64 (p : Int)] w fun e w' => e = .returned (.tuple #[.int .i64 ((skipN s p).1 : Int), .bool (skipN s p).2]) ∧ Ext w w' := by
  have hmx : 1000000000 ≤ maxLen := by decide
  replace hm := hide hm
  replace hmx := hide hmx
  have hsk0 : Hid (skipN s p = ahead s p false) := hide rfl
  go_enter Tryd.func35, Tryd.ntmps35
  go_wp2
  go_loopw [1, 6] (fun x y wr => ∃ (q : Nat) (i : Bool), q ≤ s.size ∧ x = .int .i64 (q : Int) ∧ y = .bool i ∧ Hid (skipN s p = ahead s q i) ∧ Ext w wr) (fun x _ _ => s.size - (intOf x).toNat)
  case atStart => exact ⟨p, false, hp, rfl, rfl, hsk0, Below.refl _ _⟩
  case round =>
    clear hsk0
    obtain ⟨q, i, hqs, rfl, rfl, hsk, hE⟩ := hrel
    by_cases hq : q < s.size
    · have hq' : (q : Int) < (s.size : Int) := by omega
      have hlen : (s.extract q s.size).size = s.size - q := by simp
      obtain ⟨t1, t2, t3⟩ := tail_okR s q
      have hfa := first_any (s.extract q s.size)
      rw [t1, t2, t3] at hfa
      replace hfa := hide hfa
      replace t1 := hide t1
      replace t2 := hide t2
      replace t3 := hide t3
      go_wp2_with fail
      refine (hfa.out _ (by have := hmx.out; have := hm.out; omega) (by omega)).mono ?_
      rintro e w1 ⟨rfl, hE1⟩
      replace hE := hE.trans (hE1.mono hE.size)
      rw [show (if okR s q = true then ((rune s q : Nat) : Int) else -1) = cz s q from rfl, show (if okR s q = true then ((width s q : Nat) : Int) else 1) = wz s q from rfl]
      clear hE1 hfa t1 t2 t3 hlen
      obtain ⟨y1, hy1⟩ : ∃ y, y = cz s q := ⟨_, rfl⟩
      obtain ⟨y2, hy2⟩ : ∃ y, y = wz s q := ⟨_, rfl⟩
      rw [← hy1, ← hy2]
      replace hy1 := hide hy1
      replace hy2 := hide hy2
      by_cases h10 : y1 = 10
      · have hv := hide (ahead_line i hq (hy1.out.symm.trans h10))
        subst h10
        go_wp2
        go_ret2
        exact ⟨by rw [hsk.out, hv.out]; rfl, hE⟩
      · have e10 : (y1 == 10) = false := beq_eq_false_iff_ne.2 h10
        cases i with
        | true =>
          by_cases h32 : y1 < 32
          · by_cases h9 : y1 = 9
            · have hv := hide (ahead_in hq (.inr (hy1.out.symm.trans h9)))
              subst h9
              have hwi := width_in hq
              have hwp := width_pos s q
              obtain ⟨q2, hq2⟩ : ∃ z, z = q + width s q := ⟨_, rfl⟩
              have hsk2 : Hid (skipN s p = ahead s q2 true) := hide (by rw [hsk.out, hv.out.1, hq2])
              have u1 : IntKind.i64.wrap ((q : Int) + y2) = (q2 : Int) := by rw [hy2.out, hv.out.2, IntWalk.i64_in _ (by have := hm.out; omega)]; omega
              have hq2s : q2 ≤ s.size := by omega
              have hqq : q < q2 := by omega
              replace hq2 := hide hq2
              clear hv hwi hwp
              go_wp2
              refine ⟨?_, ?_⟩
              · first
                  | exact ⟨q2, true, hq2s, rfl, rfl, hsk2, hE⟩
                  | ((repeat apply Exists.intro); exact ⟨⟨q2, true, hq2s, rfl, rfl, hsk2, hE⟩, rfl⟩)
              · first | (simp [intOf, lenV]; omega) | (simp [intOf]; omega) | (simp [intOf]; done)
            · have hv := hide (ahead_bad hq (by rw [← hy1.out]; exact h32) (by rw [← hy1.out]; exact h9) (by rw [← hy1.out]; exact h10))
              have e9 : (y1 == 9) = false := beq_eq_false_iff_ne.2 h9
              have e9' : (y1 != 9) = true := by rw [bne, e9]; rfl
              go_wp2
              go_ret2
              exact ⟨by rw [hsk.out, hv.out]; rfl, hE⟩
          · have hv := hide (ahead_in hq (.inl (by rw [← hy1.out]; omega)))
            have hwi := width_in hq
            have hwp := width_pos s q
            obtain ⟨q2, hq2⟩ : ∃ z, z = q + width s q := ⟨_, rfl⟩
            have hsk2 : Hid (skipN s p = ahead s q2 true) := hide (by rw [hsk.out, hv.out.1, hq2])
            have u1 : IntKind.i64.wrap ((q : Int) + y2) = (q2 : Int) := by rw [hy2.out, hv.out.2, IntWalk.i64_in _ (by have := hm.out; omega)]; omega
            have hq2s : q2 ≤ s.size := by omega
            have hqq : q < q2 := by omega
            replace hq2 := hide hq2
            clear hv hwi hwp
            go_wp2
            refine ⟨?_, ?_⟩
            · first
                | exact ⟨q2, true, hq2s, rfl, rfl, hsk2, hE⟩
                | ((repeat apply Exists.intro); exact ⟨⟨q2, true, hq2s, rfl, rfl, hsk2, hE⟩, rfl⟩)
            · first | (simp [intOf, lenV]; omega) | (simp [intOf]; omega) | (simp [intOf]; done)
        | false =>
          by_cases h32 : y1 = 32
          · have hv := hide (ahead_blank hq (.inl (hy1.out.symm.trans h32)))
            subst h32
            have hwi := width_in hq
            have hwp := width_pos s q
            obtain ⟨q2, hq2⟩ : ∃ z, z = q + width s q := ⟨_, rfl⟩
            have hsk2 : Hid (skipN s p = ahead s q2 false) := hide (by rw [hsk.out, hv.out.1, hq2])
            have u1 : IntKind.i64.wrap ((q : Int) + y2) = (q2 : Int) := by rw [hy2.out, hv.out.2, IntWalk.i64_in _ (by have := hm.out; omega)]; omega
            have hq2s : q2 ≤ s.size := by omega
            have hqq : q < q2 := by omega
            replace hq2 := hide hq2
            clear hv hwi hwp
            go_wp2
            refine ⟨?_, ?_⟩
            · first
                | exact ⟨q2, false, hq2s, rfl, rfl, hsk2, hE⟩
                | ((repeat apply Exists.intro); exact ⟨⟨q2, false, hq2s, rfl, rfl, hsk2, hE⟩, rfl⟩)
            · first | (simp [intOf, lenV]; omega) | (simp [intOf]; omega) | (simp [intOf]; done)
          · have e32 : (y1 == 32) = false := beq_eq_false_iff_ne.2 h32
            by_cases h9 : y1 = 9
            · have hv := hide (ahead_blank hq (.inr (hy1.out.symm.trans h9)))
              subst h9
              have hwi := width_in hq
              have hwp := width_pos s q
              obtain ⟨q2, hq2⟩ : ∃ z, z = q + width s q := ⟨_, rfl⟩
              have hsk2 : Hid (skipN s p = ahead s q2 false) := hide (by rw [hsk.out, hv.out.1, hq2])
              have u1 : IntKind.i64.wrap ((q : Int) + y2) = (q2 : Int) := by rw [hy2.out, hv.out.2, IntWalk.i64_in _ (by have := hm.out; omega)]; omega
              have hq2s : q2 ≤ s.size := by omega
              have hqq : q < q2 := by omega
              replace hq2 := hide hq2
              clear hv hwi hwp
              go_wp2
              refine ⟨?_, ?_⟩
              · first
                  | exact ⟨q2, false, hq2s, rfl, rfl, hsk2, hE⟩
                  | ((repeat apply Exists.intro); exact ⟨⟨q2, false, hq2s, rfl, rfl, hsk2, hE⟩, rfl⟩)
              · first | (simp [intOf, lenV]; omega) | (simp [intOf]; omega) | (simp [intOf]; done)
            · have e9 : (y1 == 9) = false := beq_eq_false_iff_ne.2 h9
              by_cases h35 : y1 = 35
              · have hv := hide (ahead_mark hq (hy1.out.symm.trans h35))
                subst h35
                have hwi := width_in hq
                have hwp := width_pos s q
                obtain ⟨q2, hq2⟩ : ∃ z, z = q + width s q := ⟨_, rfl⟩
                have hsk2 : Hid (skipN s p = ahead s q2 true) := hide (by rw [hsk.out, hv.out.1, hq2])
                have u1 : IntKind.i64.wrap ((q : Int) + y2) = (q2 : Int) := by rw [hy2.out, hv.out.2, IntWalk.i64_in _ (by have := hm.out; omega)]; omega
                have hq2s : q2 ≤ s.size := by omega
                have hqq : q < q2 := by omega
                replace hq2 := hide hq2
                clear hv hwi hwp
                go_wp2
                refine ⟨?_, ?_⟩
                · first
                    | exact ⟨q2, true, hq2s, rfl, rfl, hsk2, hE⟩
                    | ((repeat apply Exists.intro); exact ⟨⟨q2, true, hq2s, rfl, rfl, hsk2, hE⟩, rfl⟩)
                · first | (simp [intOf, lenV]; omega) | (simp [intOf]; omega) | (simp [intOf]; done)
              · have e35 : (y1 == 35) = false := beq_eq_false_iff_ne.2 h35
                have hv := hide (ahead_else (s := s) (q := q) (by rw [← hy1.out]; exact h32) (by rw [← hy1.out]; exact h9) (by rw [← hy1.out]; exact h35))
                go_wp2
                go_ret2
                exact ⟨by rw [hsk.out, hv.out]; rfl, hE⟩
    · have hq' : ¬ (q : Int) < (s.size : Int) := by omega
      have hv := hide (ahead_end s q i (by omega))
      go_wp2
      go_ret2
      exact ⟨by rw [hsk.out, hv.out]; rfl, hE⟩
set_option maxRecDepth 100000 in
set_option maxHeartbeats 4000000 in
theorem refWordAt_any (s : ByteArray) (a : Nat) (ha : a ≤ s.size) (hm : s.size ≤ 1000000000) (w : World) :
    Calls Tryd.prog 37 #[.string s, .int .i64 (a : Int)] w fun e w' => e = .returned (.tuple #[.int .i64 ((if stp s eitherB a ≤ a + 24 then stp s eitherB a else lng s a a : Nat) : Int), .bool (decide (stp s eitherB a ≤ a + 24))]) ∧ Ext w w' := by
  have hmx : 1000000000 ≤ maxLen := by decide
  obtain ⟨k, hk0⟩ : ∃ k, k = stp s eitherB a := ⟨_, rfl⟩
  rw [← hk0]
  have hst0 : Hid (stp s eitherB a = k) := hide hk0.symm
  obtain ⟨z1, hz1⟩ : ∃ z, z = (if k ≤ a + 24 then k else lng s a a) := ⟨_, rfl⟩
  obtain ⟨z2, hz2⟩ : ∃ z, z = decide (k ≤ a + 24) := ⟨_, rfl⟩
  rw [← hz1, ← hz2]
  replace hz1 := hide hz1
  replace hz2 := hide hz2
  replace hm := hide hm
  replace hmx := hide hmx
  replace hk0 := hide hk0
  go_enter Tryd.func37, Tryd.ntmps37
  go_wp2
  go_loopw [1] (fun x wr => ∃ (q : Nat), q ≤ s.size ∧ a ≤ q ∧ q ≤ a + 24 ∧ x = .int .i64 (q : Int) ∧ Hid (stp s eitherB q = k) ∧ Hid (lng s a a = lng s a q) ∧ Ext w wr) (fun x _ => s.size - (intOf x).toNat)
  case atStart => exact ⟨a, ha, Nat.le_refl _, by omega, rfl, hst0, hide rfl, Below.refl _ _⟩
  case round =>
    clear hst0 hk0
    obtain ⟨q, hqs, haq, hqa, rfl, hstp, hlg, hE⟩ := hrel
    by_cases hq : q < s.size
    · have hq' : (q : Int) < (s.size : Int) := by omega
      have hlen : (s.extract q s.size).size = s.size - q := by simp
      obtain ⟨t1, t2, t3⟩ := tail_okR s q
      have hfa := first_any (s.extract q s.size)
      rw [t1, t2, t3] at hfa
      replace hfa := hide hfa
      replace t1 := hide t1
      replace t2 := hide t2
      replace t3 := hide t3
      go_wp2_with fail
      refine (hfa.out _ (by have := hmx.out; have := hm.out; omega) (by omega)).mono ?_
      rintro e w1 ⟨rfl, hE1⟩
      replace hE := hE.trans (hE1.mono hE.size)
      rw [show (if okR s q = true then ((rune s q : Nat) : Int) else -1) = cz s q from rfl, show (if okR s q = true then ((width s q : Nat) : Int) else 1) = wz s q from rfl]
      clear hE1 hfa t1 t2 t3 hlen
      obtain ⟨y1, hy1⟩ : ∃ y, y = cz s q := ⟨_, rfl⟩
      obtain ⟨y2, hy2⟩ : ∃ y, y = wz s q := ⟨_, rfl⟩
      rw [← hy1, ← hy2]
      replace hy1 := hide hy1
      replace hy2 := hide hy2
      go_wp2_with fail
      refine (refLetter_any y1 _).mono ?_
      rintro e w2 ⟨rfl, hw⟩
      rw [hw]
      clear hw
      cases hl : letZ y1 with
      | true =>
        have hok : (okR s q && eitherB (rune s q)) = true := by rw [cz_either, ← hy1.out, hl]; simp
        rw [Bool.and_eq_true] at hok
        have hyw : y2 = ((width s q : Nat) : Int) := by rw [hy2.out]; unfold wz; rw [if_pos hok.1]
        have hwi := width_in hq
        have hwp := width_pos s q
        obtain ⟨q2, hq2⟩ : ∃ z, z = q + width s q := ⟨_, rfl⟩
        have hst := hstp.out
        rw [stp_go hq hok.1 hok.2, ← hq2] at hst
        have hge := stp_ge s eitherB q2
        rw [hst] at hge
        have u1 : IntKind.i64.wrap ((q : Int) + y2) = (q2 : Int) := by rw [hyw, IntWalk.i64_in _ (by have := hm.out; omega)]; omega
        have u2 : IntKind.i64.wrap ((q2 : Int) - (a : Int)) = (q2 : Int) - (a : Int) := IntWalk.i64_in _ (by have := hm.out; omega)
        have hq2s : q2 ≤ s.size := by omega
        have hqq : q < q2 := by omega
        by_cases h24 : a + 24 < q2
        · have u3 : (24 : Int) < (q2 : Int) - (a : Int) := by omega
          have hv : Hid (lng s a a = q) := hide (by rw [hlg.out]; exact lng_out hqa (by rw [← hq2]; exact h24))
          have hk : Hid (¬ k ≤ a + 24) := hide (by omega)
          replace hq2 := hide hq2
          replace hok := hide hok
          replace hyw := hide hyw
          replace hst := hide hst
          replace h24 := hide h24
          clear hwi hwp hge
          replace hl := hide hl
          go_wp2
          go_ret2
          refine ⟨?_, hE⟩
          rw [show z1 = q by rw [hz1.out, if_neg hk.out, hv.out], show z2 = false by rw [hz2.out, decide_eq_false hk.out]]
          rfl
        · have u3 : ¬ (24 : Int) < (q2 : Int) - (a : Int) := by omega
          have hlg2 : Hid (lng s a a = lng s a q2) := hide (by rw [hlg.out, hq2]; exact lng_go (by rw [← hq2]; exact h24))
          have hq2a : q2 ≤ a + 24 := by omega
          have haq2 : a ≤ q2 := by omega
          replace hq2 := hide hq2
          replace hok := hide hok
          replace hyw := hide hyw
          replace hst := hide hst
          replace h24 := hide h24
          clear hwi hwp hge
          replace hl := hide hl
          go_wp2
          refine ⟨?_, ?_⟩
          · first
              | exact ⟨q2, hq2s, haq2, hq2a, rfl, hst, hlg2, hE⟩
              | ((repeat apply Exists.intro); exact ⟨⟨q2, hq2s, haq2, hq2a, rfl, hst, hlg2, hE⟩, rfl⟩)
          · first | (simp [intOf, lenV]; omega) | (simp [intOf]; omega) | (simp [intOf]; done)
      | false =>
        replace hl := hide hl
        go_wp2_with fail
        refine (refDigit_any y1 _).mono ?_
        rintro e w2 ⟨rfl, hw⟩
        rw [hw]
        clear hw
        cases hd : digZ y1 with
        | true =>
          have hok : (okR s q && eitherB (rune s q)) = true := by rw [cz_either, ← hy1.out, hd]; simp
          rw [Bool.and_eq_true] at hok
          have hyw : y2 = ((width s q : Nat) : Int) := by rw [hy2.out]; unfold wz; rw [if_pos hok.1]
          have hwi := width_in hq
          have hwp := width_pos s q
          obtain ⟨q2, hq2⟩ : ∃ z, z = q + width s q := ⟨_, rfl⟩
          have hst := hstp.out
          rw [stp_go hq hok.1 hok.2, ← hq2] at hst
          have hge := stp_ge s eitherB q2
          rw [hst] at hge
          have u1 : IntKind.i64.wrap ((q : Int) + y2) = (q2 : Int) := by rw [hyw, IntWalk.i64_in _ (by have := hm.out; omega)]; omega
          have u2 : IntKind.i64.wrap ((q2 : Int) - (a : Int)) = (q2 : Int) - (a : Int) := IntWalk.i64_in _ (by have := hm.out; omega)
          have hq2s : q2 ≤ s.size := by omega
          have hqq : q < q2 := by omega
          by_cases h24 : a + 24 < q2
          · have u3 : (24 : Int) < (q2 : Int) - (a : Int) := by omega
            have hv : Hid (lng s a a = q) := hide (by rw [hlg.out]; exact lng_out hqa (by rw [← hq2]; exact h24))
            have hk : Hid (¬ k ≤ a + 24) := hide (by omega)
            replace hq2 := hide hq2
            replace hok := hide hok
            replace hyw := hide hyw
            replace hst := hide hst
            replace h24 := hide h24
            clear hwi hwp hge
            replace hd := hide hd
            go_wp2
            go_ret2
            refine ⟨?_, hE⟩
            rw [show z1 = q by rw [hz1.out, if_neg hk.out, hv.out], show z2 = false by rw [hz2.out, decide_eq_false hk.out]]
            rfl
          · have u3 : ¬ (24 : Int) < (q2 : Int) - (a : Int) := by omega
            have hlg2 : Hid (lng s a a = lng s a q2) := hide (by rw [hlg.out, hq2]; exact lng_go (by rw [← hq2]; exact h24))
            have hq2a : q2 ≤ a + 24 := by omega
            have haq2 : a ≤ q2 := by omega
            replace hq2 := hide hq2
            replace hok := hide hok
            replace hyw := hide hyw
            replace hst := hide hst
            replace h24 := hide h24
            clear hwi hwp hge
            replace hd := hide hd
            go_wp2
            refine ⟨?_, ?_⟩
            · first
                | exact ⟨q2, hq2s, haq2, hq2a, rfl, hst, hlg2, hE⟩
                | ((repeat apply Exists.intro); exact ⟨⟨q2, hq2s, haq2, hq2a, rfl, hst, hlg2, hE⟩, rfl⟩)
            · first | (simp [intOf, lenV]; omega) | (simp [intOf]; omega) | (simp [intOf]; done)
        | false =>
          have hno : (okR s q && eitherB (rune s q)) = false := by rw [cz_either, ← hy1.out, hl.out, hd]; rfl
          have hkq : Hid (k = q) := hide (by rw [← hstp.out]; exact stp_out hno)
          have hk : Hid (k ≤ a + 24) := hide (by rw [hkq.out]; exact hqa)
          replace hd := hide hd
          replace hno := hide hno
          go_wp2
          go_ret2
          refine ⟨?_, hE⟩
          rw [show z1 = q by rw [hz1.out, if_pos hk.out, hkq.out], show z2 = true by rw [hz2.out, decide_eq_true hk.out]]
          rfl
    · have hq' : ¬ (q : Int) < (s.size : Int) := by omega
      have hkq : Hid (k = q) := hide (by rw [← hstp.out]; exact stp_end hq)
      have hk : Hid (k ≤ a + 24) := hide (by rw [hkq.out]; exact hqa)
      go_wp2
      go_ret2
      refine ⟨?_, hE⟩
      rw [show z1 = q by rw [hz1.out, if_pos hk.out, hkq.out], show z2 = true by rw [hz2.out, decide_eq_true hk.out]]
      rfl
theorem dig_byt (s : ByteArray) (q : Nat) : (okR s q && digB (rune s q)) = digZ (byt s q : Int) := by
  by_cases hb : byt s q < 128
  · obtain ⟨e1, e2, e3⟩ := rune_small (s := s) (p := q) hb
    rw [e1, e3, Bool.true_and]
    rfl
  · have h1 := rune_large (s := s) (p := q) hb
    have h2 : digZ (byt s q : Int) = false := by unfold digZ; simp; omega
    have h3 : digB (rune s q) = false := by show digZ ((rune s q : Nat) : Int) = false; unfold digZ; simp; omega
    rw [h2, h3, Bool.and_false]
theorem dig_width {s : ByteArray} {q : Nat} (h : digZ (byt s q : Int) = true) : width s q = 1 := by
  refine (rune_small (s := s) (p := q) ?_).2.1
  show byt s q < 128
  unfold digZ at h
  simp at h
  omega
theorem stp_dig_all (s : ByteArray) : ∀ p, ∀ i, p ≤ i → i < stp s digB p → digZ (byt s i : Int) = true := by
  refine rune_ind s (fun p h i h1 h2 => by rw [stp_end h] at h2; omega) (fun p h ih i h1 h2 => ?_)
  cases hg : (okR s p && digB (rune s p)) with
  | false => rw [stp_out hg] at h2; omega
  | true =>
    have hd := hg
    rw [dig_byt] at hd
    rw [Bool.and_eq_true] at hg
    rw [stp_go h hg.1 hg.2] at h2
    have hw := dig_width hd
    by_cases hi : i = p
    · rw [hi]; exact hd
    · exact ih i (by omega) h2
theorem nums_ext {s : ByteArray} {a k i : Nat} (hk : k ≤ s.size) (hi : a + i < k) : (nums (s.extract a k))[i]? = some (byt s (a + i) : Int) := by
  have hz : i < (s.extract a k).size := by rw [ByteArray.size_extract]; omega
  rw [at_byte hz, ByteArray.getElem_extract, ← byt_at (show a + i < s.size by omega)]
theorem looks_dig {s : ByteArray} {a : Nat} (ha : a < s.size) (hd : digZ (byt s a : Int) = true) (h0 : ¬ (byt s a = 48 ∧ a + 1 < stp s digB a)) : looksB (nums (s.extract a (stp s digB a))) = true := by
  have hk := stp_le s digB a (by omega)
  have h1 := dig_go ha hd
  have h2 := stp_ge s digB (a + 1)
  have hall := stp_dig_all s a
  generalize stp s digB a = k at *
  have hlen : (nums (s.extract a k)).length = k - a := by rw [nums_length, ByteArray.size_extract]; omega
  have h00 := nums_ext (s := s) (a := a) (k := k) (i := 0) hk (by omega)
  rw [Nat.add_zero] at h00
  have hD : ∀ b ∈ nums (s.extract a k), isD b = true := by
    intro b hb
    obtain ⟨i, hi⟩ := List.getElem?_of_mem hb
    have hil := (List.getElem?_eq_some_iff.1 hi).1
    rw [nums_ext hk (by omega)] at hi
    injection hi with hi
    rw [← hi]
    exact hall (a + i) (by omega) (by omega)
  generalize nums (s.extract a k) = L at *
  match L, hlen, h00, hD with
  | x :: r, hlen, h00, hD =>
    simp at h00
    have hx : ¬ x = 45 := by
      intro e
      have := hD x (List.mem_cons_self ..)
      rw [e] at this
      exact absurd this (by decide)
    unfold looksB
    rw [if_neg hx, List.all_eq_true.2 hD, Bool.true_and]
    by_cases h48 : x = 48
    · have : r = [] := by
        cases r with
        | nil => rfl
        | cons y r => simp at hlen; omega
      rw [this, h48]
      rfl
    · rw [beq_eq_false_iff_ne.2 h48]
      simp
set_option maxRecDepth 100000 in
set_option maxHeartbeats 4000000 in
theorem refNumber_any (s : ByteArray) (a : Nat) (ha : a < s.size) (hd : digZ (byt s a : Int) = true) (hm : s.size ≤ 1000000000) (w : World) :
    Calls Tryd.prog 36 #[.string s, .int .i64 (a : Int)] w fun e w' => e = .returned (.tuple #[.string (if byt s a = 48 ∧ a + 1 < stp s digB a then (⟨#[]⟩, a + 1, 120) else if fitB (s.extract a (stp s digB a)) = true then (s.extract a (stp s digB a), stp s digB a, 0) else (⟨#[]⟩, a, 121) : ByteArray × Nat × Int).1, .int .i64 (((if byt s a = 48 ∧ a + 1 < stp s digB a then (⟨#[]⟩, a + 1, 120) else if fitB (s.extract a (stp s digB a)) = true then (s.extract a (stp s digB a), stp s digB a, 0) else (⟨#[]⟩, a, 121) : ByteArray × Nat × Int).2.1 : Nat) : Int), .int .i64 (if byt s a = 48 ∧ a + 1 < stp s digB a then (⟨#[]⟩, a + 1, 120) else if fitB (s.extract a (stp s digB a)) = true then (s.extract a (stp s digB a), stp s digB a, 0) else (⟨#[]⟩, a, 121) : ByteArray × Nat × Int).2.2]) ∧ Ext w w' := by
  have hmx : 1000000000 ≤ maxLen := by decide
  obtain ⟨k, hk0⟩ : ∃ k, k = stp s digB a := ⟨_, rfl⟩
  rw [← hk0]
  have hak0 : a < k := by rw [hk0, dig_go ha hd]; have := stp_ge s digB (a + 1); omega
  obtain ⟨R, hR⟩ : ∃ R : ByteArray × Nat × Int, R = (if byt s a = 48 ∧ a + 1 < k then (⟨#[]⟩, a + 1, 120) else if fitB (s.extract a k) = true then (s.extract a k, k, 0) else (⟨#[]⟩, a, 121)) := ⟨_, rfl⟩
  rw [← hR]
  have ha' : (a : Int) < (s.size : Int) := by omega
  have hst0 : Hid (stp s digB a = k) := hide hk0.symm
  obtain ⟨c, hc⟩ : ∃ c, c = byt s a := ⟨_, rfl⟩
  have hxa : (s[a]'ha).toNat = c := by rw [hc]; exact byt_at ha
  replace hm := hide hm
  replace hmx := hide hmx
  replace hk0 := hide hk0
  replace hR := hide hR
  replace hd := hide hd
  replace hc := hide hc
  go_enter Tryd.func36, Tryd.ntmps36
  go_wp2
  go_loopw [7] (fun x wr => ∃ (q : Nat), q ≤ s.size ∧ a ≤ q ∧ x = .int .i64 (q : Int) ∧ Hid (stp s digB q = k) ∧ Hid (byt s a = 48 → q ≤ a + 1) ∧ Ext w wr) (fun x _ => s.size - (intOf x).toNat)
  case atStart => exact ⟨a, by omega, Nat.le_refl _, rfl, hst0, hide (fun _ => by omega), Below.refl _ _⟩
  case round =>
    clear hst0
    obtain ⟨q, hqs, haq, rfl, hstp, h0, hE⟩ := hrel
    by_cases hq : q < s.size
    · have hq' : (q : Int) < (s.size : Int) := by omega
      obtain ⟨b, hb⟩ : ∃ b, b = byt s q := ⟨_, rfl⟩
      have hx : (s[q]'hq).toNat = b := by rw [hb]; exact byt_at hq
      have hbl := byt_lt s q
      rw [← hb] at hbl
      have e5 : wrap32 (b : Int) = (b : Int) := by unfold wrap32; omega
      have e6 : IntKind.i32.wrap (b : Int) = (b : Int) := by rw [IntKind.wrap_i32]; omega
      replace hb := hide hb
      go_wp2_with fail
      refine (refDigit_any (b : Int) _).mono ?_
      rintro e w1 ⟨rfl, hw⟩
      rw [hw]
      clear hw
      cases hdb : digZ (b : Int) with
      | true =>
        have hg : (okR s q && digB (rune s q)) = true := by rw [dig_byt, ← hb.out]; exact hdb
        have hw1 := dig_width (s := s) (q := q) (by rw [← hb.out]; exact hdb)
        rw [Bool.and_eq_true] at hg
        have hst := hstp.out
        rw [stp_go hq hg.1 hg.2, hw1] at hst
        have hge := stp_ge s digB (q + 1)
        rw [hst] at hge
        have u1 : IntKind.i64.wrap ((q : Int) + 1) = ((q + 1 : Nat) : Int) := by rw [IntWalk.i64_in _ (by have := hm.out; omega)]; omega
        replace hst := hide hst
        replace hdb := hide hdb
        replace hg := hide hg
        replace hw1 := hide hw1
        by_cases hqa : a < q
        · have v1 : (a : Int) < (q : Int) := by omega
          by_cases h48 : c = 48
          · have hqe : q = a + 1 := by have := h0.out (hc.out.symm.trans h48); omega
            have hv : Hid (R = (⟨#[]⟩, q, 120)) := hide (by rw [hR.out, if_pos ⟨hc.out.symm.trans h48, by omega⟩, hqe])
            replace hqe := hide hqe
            subst h48
            go_wp2
            go_ret3
            refine ⟨?_, hE⟩
            rw [hv.out]
            try rfl
          · have v2 : ((c : Int) == 48) = false := by rw [beq_eq_false_iff_ne]; omega
            have v3 : ¬ (c : Int) = 48 := by omega
            have h02 : Hid (byt s a = 48 → q + 1 ≤ a + 1) := hide (fun h => absurd (hc.out.trans h) h48)
            replace h48 := hide h48
            go_wp2
            refine ⟨?_, ?_⟩
            · first
                | exact ⟨q + 1, by omega, by omega, rfl, hst, h02, hE⟩
                | ((repeat apply Exists.intro); exact ⟨⟨q + 1, by omega, by omega, rfl, hst, h02, hE⟩, rfl⟩)
            · first | (simp [intOf, lenV]; omega) | (simp [intOf]; omega) | (simp [intOf]; done)
        · have v1 : ¬ (a : Int) < (q : Int) := by omega
          have h02 : Hid (byt s a = 48 → q + 1 ≤ a + 1) := hide (fun _ => by omega)
          go_wp2
          refine ⟨?_, ?_⟩
          · first
              | exact ⟨q + 1, by omega, by omega, rfl, hst, h02, hE⟩
              | ((repeat apply Exists.intro); exact ⟨⟨q + 1, by omega, by omega, rfl, hst, h02, hE⟩, rfl⟩)
          · first | (simp [intOf, lenV]; omega) | (simp [intOf]; omega) | (simp [intOf]; done)
      | false =>
        have hg : (okR s q && digB (rune s q)) = false := by rw [dig_byt, ← hb.out]; exact hdb
        replace hdb := hide hdb
        have hkq : q = k := hstp.out.symm.trans (stp_out hg) |>.symm
        have hn0 : ¬ (byt s a = 48 ∧ a + 1 < k) := by rw [← hkq]; exact fun h => by have := h0.out h.1; omega
        have hlk := looks_dig ha hd.out (by rw [← hk0.out]; exact hn0)
        rw [← hk0.out] at hlk
        have hak : (a : Int) ≤ (k : Int) := by omega
        have hks : (k : Int) ≤ (s.size : Int) := by omega
        have hks' : k ≤ s.size := by omega
        have hrd := refRead_any (s.extract a k) (by rw [ByteArray.size_extract]; have := hm.out; omega) hlk
        have hfit : fitB (s.extract a k) = ((readS (nums (s.extract a k))).2 == 0) := rfl
        obtain ⟨tx, htx⟩ : ∃ t, t = s.extract a k := ⟨_, rfl⟩
        obtain ⟨r1, hr1⟩ : ∃ z, z = (readS (nums tx)).1 := ⟨_, rfl⟩
        rw [← htx] at hrd hfit
        rw [← hfit, ← hr1] at hrd
        have hR2 : Hid (R = if fitB tx = true then (tx, k, 0) else (⟨#[]⟩, a, 121)) := hide (by rw [hR.out, if_neg hn0, htx])
        obtain rfl := hkq
        replace hrd := hide hrd
        replace hr1 := hide hr1
        replace hfit := hide hfit
        replace hlk := hide hlk
        replace hn0 := hide hn0
        go_wp2_with fail
        rw [← htx]
        refine (hrd.out _).mono ?_
        rintro e w2 ⟨rfl, hw⟩
        rw [hw]
        clear hw
        cases hft : fitB tx with
        | true =>
          have hv : Hid (R = (tx, q, 0)) := hide (by rw [hR2.out, if_pos hft])
          replace hft := hide hft
          have htx' := htx.symm
          replace htx := hide htx
          go_wp2
          go_ret3
          refine ⟨?_, hE⟩
          rw [hv.out]
          try rfl
        | false =>
          have hv : Hid (R = (⟨#[]⟩, a, 121)) := hide (by rw [hR2.out, if_neg (by rw [hft]; decide)])
          replace hft := hide hft
          replace htx := hide htx
          go_wp2
          go_ret3
          refine ⟨?_, hE⟩
          rw [hv.out]
          try rfl
    · have hq' : ¬ (q : Int) < (s.size : Int) := by omega
      have hkq : q = k := hstp.out.symm.trans (stp_end hq) |>.symm
      have hn0 : ¬ (byt s a = 48 ∧ a + 1 < k) := by rw [← hkq]; exact fun h => by have := h0.out h.1; omega
      have hlk := looks_dig ha hd.out (by rw [← hk0.out]; exact hn0)
      rw [← hk0.out] at hlk
      have hak : (a : Int) ≤ (k : Int) := by omega
      have hks : (k : Int) ≤ (s.size : Int) := by omega
      have hks' : k ≤ s.size := by omega
      have hrd := refRead_any (s.extract a k) (by rw [ByteArray.size_extract]; have := hm.out; omega) hlk
      have hfit : fitB (s.extract a k) = ((readS (nums (s.extract a k))).2 == 0) := rfl
      obtain ⟨tx, htx⟩ : ∃ t, t = s.extract a k := ⟨_, rfl⟩
      obtain ⟨r1, hr1⟩ : ∃ z, z = (readS (nums tx)).1 := ⟨_, rfl⟩
      rw [← htx] at hrd hfit
      rw [← hfit, ← hr1] at hrd
      have hR2 : Hid (R = if fitB tx = true then (tx, k, 0) else (⟨#[]⟩, a, 121)) := hide (by rw [hR.out, if_neg hn0, htx])
      obtain rfl := hkq
      replace hrd := hide hrd
      replace hr1 := hide hr1
      replace hfit := hide hfit
      replace hlk := hide hlk
      replace hn0 := hide hn0
      go_wp2_with fail
      rw [← htx]
      refine (hrd.out _).mono ?_
      rintro e w2 ⟨rfl, hw⟩
      rw [hw]
      clear hw
      cases hft : fitB tx with
      | true =>
        have hv : Hid (R = (tx, q, 0)) := hide (by rw [hR2.out, if_pos hft])
        replace hft := hide hft
        have htx' := htx.symm
        replace htx := hide htx
        go_wp2
        go_ret3
        refine ⟨?_, hE⟩
        rw [hv.out]
        try rfl
      | false =>
        have hv : Hid (R = (⟨#[]⟩, a, 121)) := hide (by rw [hR2.out, if_neg (by rw [hft]; decide)])
        replace hft := hide hft
        replace htx := hide htx
        go_wp2
        go_ret3
        refine ⟨?_, hE⟩
        rw [hv.out]
        try rfl
end Go.Proofs.YtlianjnmfgakkaaDoor
