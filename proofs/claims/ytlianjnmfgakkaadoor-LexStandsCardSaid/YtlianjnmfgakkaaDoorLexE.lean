/- The document's Word; names.Check. -/
import Derived.Test.YtlianjnmfgakkaaDoorLexD
namespace Go.Proofs.YtlianjnmfgakkaaDoor
open Go.RowKit

def gW (s : ByteArray) (x : Nat × Nat) : Bool := okR s x.1 && (letZ (x.2 : Int) || (decide (x.1 ≠ 0) && digZ (x.2 : Int)))
theorem wordB_all {s : ByteArray} (h : s.size ≠ 0) (h24 : s.size ≤ 24) : wordB s = (rns s 0).all (gW s) := by
  unfold wordB
  rw [decide_eq_true h, decide_eq_true h24, Bool.and_true, Bool.true_and]
  rfl
theorem gW_eq (s : ByteArray) (p : Nat) (z : Int) (hz : z = if okR s p = true then ((rune s p : Nat) : Int) else -1) : gW s (p, rune s p) = (letZ z || (decide (p ≠ 0) && digZ z)) := by
  unfold gW
  cases hok : okR s p with
  | true => rw [hz, hok, if_pos rfl, Bool.true_and]
  | false =>
    rw [hz, hok, if_neg (by decide), Bool.false_and]
    have h1 : letZ (-1) = false := by decide
    have h2 : digZ (-1) = false := by decide
    rw [h1, h2, Bool.and_false, Bool.or_false]
theorem tail_okR (s : ByteArray) (p : Nat) : okR (s.extract p s.size) 0 = okR s p ∧ rune (s.extract p s.size) 0 = rune s p ∧ width (s.extract p s.size) 0 = width s p := by
  unfold okR rune width
  rw [tail_rune]
  exact ⟨rfl, rfl, rfl⟩
set_option maxHeartbeats 2000000 in
theorem refWord_any (s : ByteArray) (w : World) (hm : s.size ≤ maxLen) :
    Calls Tryd.prog 11 #[.string s] w fun e w' => e = .returned (.bool (wordB s)) ∧ Ext w w' := by
  by_cases h0 : s.size = 0
  · have hs : s = ByteArray.empty := ByteArray.ext (Array.size_eq_zero_iff.1 h0)
    subst hs
    go_enter Tryd.func11, Tryd.ntmps11
    go_wp2
    go_ret
    exact ⟨rfl, Below.refl _ _⟩
  · have hne : ¬ s.toList = [] := fun h => h0 (by
      have h1 : s.data.toList = [] := by rw [← toList_data']; exact h
      have h2 : s.data.size = 0 := by rw [← Array.length_toList, h1]; rfl
      exact h2)
    have hne2 : s.toList.isEmpty = false := by rw [List.isEmpty_eq_false_iff]; exact hne
    by_cases h24 : s.size ≤ 24
    · have h24' : ¬ (24 : Int) < (s.size : Int) := by omega
      have hl := hide (wordB_all h0 h24)
      go_enter Tryd.func11, Tryd.ntmps11
      go_wp2
      go_loopw [3] (fun i wr => ∃ p : Nat, p ≤ s.size ∧ i = .int .i64 p ∧ Hid (wordB s = (rns s p).all (gW s)) ∧ Ext w wr) (fun i _ => s.size - (intOf i).toNat)
      case atStart => exact ⟨0, Nat.zero_le _, rfl, hl, Below.refl _ _⟩
      case round =>
        obtain ⟨p, hps, rfl, hall, hE⟩ := hrel
        clear hl
        by_cases hp : p < s.size
        · have hp' : (p : Int) < (s.size : Int) := by omega
          have hlen : (s.extract p s.size).size = s.size - p := by simp
          obtain ⟨t1, t2, t3⟩ := tail_okR s p
          have hin := rns_in hp
          have hwi := width_in hp
          have hwp := width_pos s p
          go_wp2_with fail
          refine (first_any (s.extract p s.size) _ (by omega) (by omega)).mono ?_
          rintro e w1 ⟨rfl, hE1⟩
          rw [t1, t2, t3]
          replace hE := hE.trans (hE1.mono hE.size)
          clear hE1 t1 t2 t3
          obtain ⟨y1, hy1⟩ : ∃ y, y = (if okR s p = true then ((rune s p : Nat) : Int) else -1) := ⟨_, rfl⟩
          obtain ⟨y2, hy2⟩ : ∃ y, y = (if okR s p = true then ((width s p : Nat) : Int) else 1) := ⟨_, rfl⟩
          rw [← hy1, ← hy2]
          have hgw := gW_eq s p y1 hy1
          replace hy1 := hide hy1
          replace hy2 := hide hy2
          obtain ⟨wd, hwd⟩ : ∃ x, x = width s p := ⟨_, rfl⟩
          rw [← hwd] at hwi hwp
          replace hin := hide hin
          replace hgw := hide hgw
          replace hwd := hide hwd
          go_wp2_with fail
          refine (refLetter_any y1 _).mono ?_
          rintro e w2 ⟨rfl, hw⟩
          rw [hw]
          clear hw
          replace hin := hin.out
          replace hgw := hgw.out
          replace hwd := hwd.out
          cases hl : letZ y1 with
          | true =>
            have hgt : gW s (p, rune s p) = true := by rw [hgw, hl]; simp [hl]
            have hok : okR s p = true := by unfold gW at hgt; rw [Bool.and_eq_true] at hgt; exact hgt.1
            have hyw : y2 = (wd : Int) := by rw [hy2.out, if_pos hok, hwd]
            have hall2 : Hid (wordB s = (rns s (p + wd)).all (gW s)) := hide (by rw [hall.out, hin, List.all_cons, hgt, Bool.true_and, ← hwd])
            obtain ⟨p2, hp2⟩ : ∃ x, x = p + wd := ⟨_, rfl⟩
            rw [← hp2] at hall2
            have u1 : IntKind.i64.wrap ((p : Int) + y2) = (p2 : Int) := by rw [hyw, IntWalk.i64_in _ (by omega)]; omega
            have hp2s : p2 ≤ s.size := by omega
            have hpp : p < p2 := by omega
            clear hyw
            replace hgt := hide hgt
            replace hok := hide hok
            replace hgw := hide hgw
            replace hin := hide hin
            replace hwd := hide hwd
            replace hp2 := hide hp2
            replace hl := hide hl
            go_wp2
            refine ⟨?_, ?_⟩
            · first
                | exact ⟨p2, hp2s, rfl, hall2, hE⟩
                | ((repeat apply Exists.intro); exact ⟨⟨p2, hp2s, rfl, hall2, hE⟩, rfl⟩)
            · first | (simp [intOf, lenV]; omega) | (simp [intOf]; omega) | (simp [intOf]; done)
          | false =>
            by_cases hp0 : p = 0
            · have f0 : ((p : Int) == 0) = true := by rw [beq_iff_eq]; omega
              have hf : Hid (wordB s = false) := hide (by
                rw [hall.out, hin, List.all_cons, hgw]
                simp [hl, hp0])
              replace hl := hide hl; replace hin := hide hin; replace hgw := hide hgw; replace hwd := hide hwd; subst hp0
              go_wp2
              go_ret
              exact ⟨by rw [hf.out]; rfl, hE⟩
            · have f0 : ((p : Int) == 0) = false := by rw [beq_eq_false_iff_ne]; omega
              have f1 : ¬ (p : Int) = 0 := by omega
              replace hl := hide hl
              replace hin := hide hin
              replace hgw := hide hgw
              replace hwd := hide hwd
              replace hp0 := hide hp0
              go_wp2_with fail
              refine (refDigit_any y1 _).mono ?_
              rintro e w2 ⟨rfl, hw⟩
              rw [hw]
              clear hw
              replace hl := hl.out
              replace hin := hin.out
              replace hgw := hgw.out
              replace hwd := hwd.out
              cases hd : digZ y1 with
              | true =>
                have hgt : gW s (p, rune s p) = true := by rw [hgw, hl]; simp [hp0.out, hd]
                have hok : okR s p = true := by unfold gW at hgt; rw [Bool.and_eq_true] at hgt; exact hgt.1
                have hyw : y2 = (wd : Int) := by rw [hy2.out, if_pos hok, hwd]
                have hall2 : Hid (wordB s = (rns s (p + wd)).all (gW s)) := hide (by rw [hall.out, hin, List.all_cons, hgt, Bool.true_and, ← hwd])
                obtain ⟨p2, hp2⟩ : ∃ x, x = p + wd := ⟨_, rfl⟩
                rw [← hp2] at hall2
                have u1 : IntKind.i64.wrap ((p : Int) + y2) = (p2 : Int) := by rw [hyw, IntWalk.i64_in _ (by omega)]; omega
                have hp2s : p2 ≤ s.size := by omega
                have hpp : p < p2 := by omega
                clear hyw
                replace hgt := hide hgt
                replace hok := hide hok
                replace hgw := hide hgw
                replace hin := hide hin
                replace hwd := hide hwd
                replace hp2 := hide hp2
                replace hl := hide hl; replace hd := hide hd
                go_wp2
                refine ⟨?_, ?_⟩
                · first
                    | exact ⟨p2, hp2s, rfl, hall2, hE⟩
                    | ((repeat apply Exists.intro); exact ⟨⟨p2, hp2s, rfl, hall2, hE⟩, rfl⟩)
                · first | (simp [intOf, lenV]; omega) | (simp [intOf]; omega) | (simp [intOf]; done)
              | false =>
                have hf : Hid (wordB s = false) := hide (by
                  rw [hall.out, hin, List.all_cons, hgw]
                  simp [hl, hd])
                replace hl := hide hl; replace hin := hide hin; replace hgw := hide hgw; replace hwd := hide hwd; replace hd := hide hd
                go_wp2
                go_ret
                exact ⟨by rw [hf.out]; rfl, hE⟩
        · have hp' : ¬ (p : Int) < (s.size : Int) := by omega
          have hf : Hid (wordB s = true) := hide (by rw [hall.out, rns_end hp]; rfl)
          go_wp2
          go_ret
          exact ⟨by rw [hf.out]; rfl, hE⟩
    · have h24' : (24 : Int) < (s.size : Int) := by omega
      have hb : Hid (wordB s = false) := hide (by unfold wordB; rw [decide_eq_false h24, Bool.and_false, Bool.false_and])
      go_enter Tryd.func11, Tryd.ntmps11
      go_wp2
      go_ret
      exact ⟨by rw [hb.out]; rfl, Below.refl _ _⟩
end Go.Proofs.YtlianjnmfgakkaaDoor
