/- lex: letters, digits, and what is told of a rune. -/
import Derived.Test.YtlianjnmfgakkaaDoorOwn
import Derived.Test.YtlianjnmfgakkaaDoorLexP
import Derived.Test.YtlianjnmfgakkaaDoorShelf02
import Derived.Test.YtlianjnmfgakkaaDoorChecked
import Derived.Lib.OthersKept
namespace Go.Proofs.YtlianjnmfgakkaaDoor
open Go.RowKit

/-- the tables of the library that decodes texts -/
def LaidU (w : World) : Prop := Lib.Utf8Tabs 1 2 w ∧ 2 < w.heap.size
theorem LaidU.ext {w w' : World} (h : LaidU w) (hE : Ext w w') : LaidU w' := ⟨⟨fun c hc => ((bcell hE).1 _ c (by have := h.2; omega)).trans (h.1.1 c hc), fun i hi => ⟨((bcell hE).1 _ _ h.2).trans (h.1.2 i hi).1, ((bcell hE).1 _ _ h.2).trans (h.1.2 i hi).2⟩⟩, Nat.lt_of_lt_of_le h.2 hE.size⟩
set_option maxHeartbeats 2000000 in
theorem letter_any (z : Int) (w : World) : Calls Tryd.prog 52 #[.int .i32 z] w fun e w' => e = .returned (.bool (letZ z)) ∧ w' = w := by
  rcases (show z < 65 ∨ (65 ≤ z ∧ z ≤ 90) ∨ (90 < z ∧ z < 95) ∨ z = 95 ∨ z = 96 ∨ (97 ≤ z ∧ z ≤ 122) ∨ (122 < z ∧ z < 128) ∨ 128 ≤ z by omega) with hz | hz | hz | hz | hz | hz | hz | hz
  · have f1 : ¬ z = 95 := by omega
    have g1 : (z == 95) = false := by rw [beq_eq_false_iff_ne]; omega
    have f2 : ¬ 97 ≤ z := (by omega); have f3 : z ≤ 122 := (by omega); have f4 : ¬ 65 ≤ z := (by omega); have f5 : z ≤ 90 := (by omega); have f6 : ¬ 128 ≤ z := (by omega)
    replace hz := hide hz
    have hm : Hid (letZ z = false) := hide (by have := hz.out; unfold letZ; simp; omega)
    go_enter Tryd.func52, Tryd.ntmps52
    go_wp2
    go_ret
    exact ⟨by rw [hm.out]; rfl, rfl⟩
  · have f1 : ¬ z = 95 := by omega
    have g1 : (z == 95) = false := by rw [beq_eq_false_iff_ne]; omega
    have f2 : ¬ 97 ≤ z := (by omega); have f3 : z ≤ 122 := (by omega); have f4 : 65 ≤ z := (by omega); have f5 : z ≤ 90 := (by omega); have f6 : ¬ 128 ≤ z := (by omega)
    replace hz := hide hz
    have hm : Hid (letZ z = true) := hide (by have := hz.out; unfold letZ; simp; omega)
    go_enter Tryd.func52, Tryd.ntmps52
    go_wp2
    go_ret
    exact ⟨by rw [hm.out]; rfl, rfl⟩
  · have f1 : ¬ z = 95 := by omega
    have g1 : (z == 95) = false := by rw [beq_eq_false_iff_ne]; omega
    have f2 : ¬ 97 ≤ z := (by omega); have f3 : z ≤ 122 := (by omega); have f4 : 65 ≤ z := (by omega); have f5 : ¬ z ≤ 90 := (by omega); have f6 : ¬ 128 ≤ z := (by omega)
    replace hz := hide hz
    have hm : Hid (letZ z = false) := hide (by have := hz.out; unfold letZ; simp; omega)
    go_enter Tryd.func52, Tryd.ntmps52
    go_wp2
    go_ret
    exact ⟨by rw [hm.out]; rfl, rfl⟩
  · subst hz
    go_enter Tryd.func52, Tryd.ntmps52
    go_wp2
    go_ret
    exact ⟨rfl, rfl⟩
  · subst hz
    go_enter Tryd.func52, Tryd.ntmps52
    go_wp2
    go_ret
    exact ⟨rfl, rfl⟩
  · have f1 : ¬ z = 95 := by omega
    have g1 : (z == 95) = false := by rw [beq_eq_false_iff_ne]; omega
    have f2 : 97 ≤ z := (by omega); have f3 : z ≤ 122 := (by omega); have f4 : 65 ≤ z := (by omega); have f5 : ¬ z ≤ 90 := (by omega); have f6 : ¬ 128 ≤ z := (by omega)
    replace hz := hide hz
    have hm : Hid (letZ z = true) := hide (by have := hz.out; unfold letZ; simp; omega)
    go_enter Tryd.func52, Tryd.ntmps52
    go_wp2
    go_ret
    exact ⟨by rw [hm.out]; rfl, rfl⟩
  · have f1 : ¬ z = 95 := by omega
    have g1 : (z == 95) = false := by rw [beq_eq_false_iff_ne]; omega
    have f2 : 97 ≤ z := (by omega); have f3 : ¬ z ≤ 122 := (by omega); have f4 : 65 ≤ z := (by omega); have f5 : ¬ z ≤ 90 := (by omega); have f6 : ¬ 128 ≤ z := (by omega)
    replace hz := hide hz
    have hm : Hid (letZ z = false) := hide (by have := hz.out; unfold letZ; simp; omega)
    go_enter Tryd.func52, Tryd.ntmps52
    go_wp2
    go_ret
    exact ⟨by rw [hm.out]; rfl, rfl⟩
  · have f1 : ¬ z = 95 := by omega
    have g1 : (z == 95) = false := by rw [beq_eq_false_iff_ne]; omega
    have f2 : 97 ≤ z := (by omega); have f3 : ¬ z ≤ 122 := (by omega); have f4 : 65 ≤ z := (by omega); have f5 : ¬ z ≤ 90 := (by omega); have f6 : 128 ≤ z := (by omega)
    replace hz := hide hz
    have hm : Hid (letZ z = true) := hide (by have := hz.out; unfold letZ; simp; omega)
    go_enter Tryd.func52, Tryd.ntmps52
    go_wp2
    go_ret
    exact ⟨by rw [hm.out]; rfl, rfl⟩
set_option maxHeartbeats 2000000 in
theorem refLetter_any (z : Int) (w : World) : Calls Tryd.prog 29 #[.int .i32 z] w fun e w' => e = .returned (.bool (letZ z)) ∧ w' = w := by
  rcases (show z < 65 ∨ (65 ≤ z ∧ z ≤ 90) ∨ (90 < z ∧ z < 95) ∨ z = 95 ∨ z = 96 ∨ (97 ≤ z ∧ z ≤ 122) ∨ (122 < z ∧ z < 128) ∨ 128 ≤ z by omega) with hz | hz | hz | hz | hz | hz | hz | hz
  · have f1 : ¬ z = 95 := by omega
    have g1 : (z == 95) = false := by rw [beq_eq_false_iff_ne]; omega
    have f2 : ¬ 97 ≤ z := (by omega); have f3 : z ≤ 122 := (by omega); have f4 : ¬ 65 ≤ z := (by omega); have f5 : z ≤ 90 := (by omega); have f6 : ¬ 128 ≤ z := (by omega)
    replace hz := hide hz
    have hm : Hid (letZ z = false) := hide (by have := hz.out; unfold letZ; simp; omega)
    go_enter Tryd.func29, Tryd.ntmps29
    go_wp2
    go_ret
    exact ⟨by rw [hm.out]; rfl, rfl⟩
  · have f1 : ¬ z = 95 := by omega
    have g1 : (z == 95) = false := by rw [beq_eq_false_iff_ne]; omega
    have f2 : ¬ 97 ≤ z := (by omega); have f3 : z ≤ 122 := (by omega); have f4 : 65 ≤ z := (by omega); have f5 : z ≤ 90 := (by omega); have f6 : ¬ 128 ≤ z := (by omega)
    replace hz := hide hz
    have hm : Hid (letZ z = true) := hide (by have := hz.out; unfold letZ; simp; omega)
    go_enter Tryd.func29, Tryd.ntmps29
    go_wp2
    go_ret
    exact ⟨by rw [hm.out]; rfl, rfl⟩
  · have f1 : ¬ z = 95 := by omega
    have g1 : (z == 95) = false := by rw [beq_eq_false_iff_ne]; omega
    have f2 : ¬ 97 ≤ z := (by omega); have f3 : z ≤ 122 := (by omega); have f4 : 65 ≤ z := (by omega); have f5 : ¬ z ≤ 90 := (by omega); have f6 : ¬ 128 ≤ z := (by omega)
    replace hz := hide hz
    have hm : Hid (letZ z = false) := hide (by have := hz.out; unfold letZ; simp; omega)
    go_enter Tryd.func29, Tryd.ntmps29
    go_wp2
    go_ret
    exact ⟨by rw [hm.out]; rfl, rfl⟩
  · subst hz
    go_enter Tryd.func29, Tryd.ntmps29
    go_wp2
    go_ret
    exact ⟨rfl, rfl⟩
  · subst hz
    go_enter Tryd.func29, Tryd.ntmps29
    go_wp2
    go_ret
    exact ⟨rfl, rfl⟩
  · have f1 : ¬ z = 95 := by omega
    have g1 : (z == 95) = false := by rw [beq_eq_false_iff_ne]; omega
    have f2 : 97 ≤ z := (by omega); have f3 : z ≤ 122 := (by omega); have f4 : 65 ≤ z := (by omega); have f5 : ¬ z ≤ 90 := (by omega); have f6 : ¬ 128 ≤ z := (by omega)
    replace hz := hide hz
    have hm : Hid (letZ z = true) := hide (by have := hz.out; unfold letZ; simp; omega)
    go_enter Tryd.func29, Tryd.ntmps29
    go_wp2
    go_ret
    exact ⟨by rw [hm.out]; rfl, rfl⟩
  · have f1 : ¬ z = 95 := by omega
    have g1 : (z == 95) = false := by rw [beq_eq_false_iff_ne]; omega
    have f2 : 97 ≤ z := (by omega); have f3 : ¬ z ≤ 122 := (by omega); have f4 : 65 ≤ z := (by omega); have f5 : ¬ z ≤ 90 := (by omega); have f6 : ¬ 128 ≤ z := (by omega)
    replace hz := hide hz
    have hm : Hid (letZ z = false) := hide (by have := hz.out; unfold letZ; simp; omega)
    go_enter Tryd.func29, Tryd.ntmps29
    go_wp2
    go_ret
    exact ⟨by rw [hm.out]; rfl, rfl⟩
  · have f1 : ¬ z = 95 := by omega
    have g1 : (z == 95) = false := by rw [beq_eq_false_iff_ne]; omega
    have f2 : 97 ≤ z := (by omega); have f3 : ¬ z ≤ 122 := (by omega); have f4 : 65 ≤ z := (by omega); have f5 : ¬ z ≤ 90 := (by omega); have f6 : 128 ≤ z := (by omega)
    replace hz := hide hz
    have hm : Hid (letZ z = true) := hide (by have := hz.out; unfold letZ; simp; omega)
    go_enter Tryd.func29, Tryd.ntmps29
    go_wp2
    go_ret
    exact ⟨by rw [hm.out]; rfl, rfl⟩
theorem numB_any (z : Int) (w : World) : Calls Tryd.prog 25 #[.int .i32 z] w fun e w' => e = .returned (.bool (digZ z)) ∧ w' = w := by
  by_cases h1 : 48 ≤ z
  · by_cases h2 : z ≤ 57
    · have hm : Hid (digZ z = true) := hide (by unfold digZ; simp; omega)
      go_enter Tryd.func25, Tryd.ntmps25
      go_wp2
      go_ret
      exact ⟨by rw [hm.out]; rfl, rfl⟩
    · have hm : Hid (digZ z = false) := hide (by unfold digZ; simp; omega)
      go_enter Tryd.func25, Tryd.ntmps25
      go_wp2
      go_ret
      exact ⟨by rw [hm.out]; rfl, rfl⟩
  · have hm : Hid (digZ z = false) := hide (by unfold digZ; simp; omega)
    go_enter Tryd.func25, Tryd.ntmps25
    go_wp2
    go_ret
    exact ⟨by rw [hm.out]; rfl, rfl⟩
theorem refDigit_any (z : Int) (w : World) : Calls Tryd.prog 30 #[.int .i32 z] w fun e w' => e = .returned (.bool (digZ z)) ∧ w' = w := by
  by_cases h1 : 48 ≤ z
  · by_cases h2 : z ≤ 57
    · have hm : Hid (digZ z = true) := hide (by unfold digZ; simp; omega)
      go_enter Tryd.func30, Tryd.ntmps30
      go_wp2
      go_ret
      exact ⟨by rw [hm.out]; rfl, rfl⟩
    · have hm : Hid (digZ z = false) := hide (by unfold digZ; simp; omega)
      go_enter Tryd.func30, Tryd.ntmps30
      go_wp2
      go_ret
      exact ⟨by rw [hm.out]; rfl, rfl⟩
  · have hm : Hid (digZ z = false) := hide (by unfold digZ; simp; omega)
    go_enter Tryd.func30, Tryd.ntmps30
    go_wp2
    go_ret
    exact ⟨by rw [hm.out]; rfl, rfl⟩
theorem either_any (z : Int) (w : World) : Calls Tryd.prog 27 #[.int .i32 z] w fun e w' => e = .returned (.bool (letZ z || digZ z)) ∧ w' = w := by
  go_enter Tryd.func27, Tryd.ntmps27
  go_wp2_with fail
  refine (letter_any z _).mono ?_
  rintro e w1 ⟨rfl, hw⟩
  subst hw
  cases hl : letZ z with
  | true =>
    replace hl := hide hl
    go_wp2
    go_ret
    exact ⟨by rw [hl.out]; rfl, rfl⟩
  | false =>
    replace hl := hide hl
    go_wp2_with fail
    refine (numB_any z _).mono ?_
    rintro e w1 ⟨rfl, hw⟩
    subst hw
    obtain ⟨b, hb⟩ : ∃ b, b = digZ z := ⟨_, rfl⟩
    rw [← hb]
    replace hb := hide hb
    go_wp2
    go_ret
    exact ⟨by rw [hl.out, ← hb.out]; rfl, rfl⟩
theorem enter_either (args : Array Value) (w : World) : (callFunc 27 args).run Tryd.prog w = .ok (.enter 27 args) w := enters_of Tryd.func27 (by kernel_rfl) rfl args w
/-- what is told of a rune -/
theorem told_any (s : ByteArray) (p sB iB cB : Nat) (w : World) (hp : p < s.size) (hs : w.cell? ⟨sB, 0, none⟩ = some (.string s)) (hi : w.cell? ⟨iB, 0, none⟩ = some (.int .i64 (p : Int))) (hc : w.cell? ⟨cB, 0, none⟩ = some (.int .i32 ((rune s p : Nat) : Int))) (hsz : s.size ≤ maxLen)
    (l1 : sB < w.heap.size) (l2 : iB < w.heap.size) (l3 : cB < w.heap.size) (hU : LaidU w) :
    Calls Tryd.prog 66 #[.pointer (some ⟨sB, 0, none⟩), .pointer (some ⟨iB, 0, none⟩), .pointer (some ⟨cB, 0, none⟩)] w fun e w' => e = .returned (.tuple #[.int .i32 ((rune s p : Nat) : Int), .bool (okR s p)]) ∧ Ext w w' := by
  have hp' : (p : Int) ≤ (s.size : Int) := by omega
  have hp'' : p ≤ s.size := by omega
  have hlen : (s.extract p s.size).size = s.size - p := by simp
  replace hU := hide hU
  go_enter Tryd.func66, Tryd.ntmps66
  go_wp2_with fail
  have key : Lib.decodeGo (s.extract p s.size) = (rune s p, width s p) := by
    unfold Lib.decodeGo
    rw [if_neg (by omega), tail_rune]
    rfl
  refine (Tryd.utf8_DecodeRuneInString (s.extract p s.size) _ hU.out.1).mono ?_
  rintro e w1 ⟨rfl, hE⟩
  rw [key]
  have hok := okR_bytes s p
  have hrd : okR s p = (!decide (rune s p = 65533) || decide (1 < width s p)) := rfl
  obtain ⟨r, hr⟩ : ∃ r, r = rune s p := ⟨_, rfl⟩
  obtain ⟨wd, hwd⟩ : ∃ x, x = width s p := ⟨_, rfl⟩
  rw [← hr, ← hwd] at hrd
  rw [← hr] at hc ⊢
  rw [← hwd]
  have hs1 := ((bcell hE).1 sB 0 l1).trans hs
  have hi1 := ((bcell hE).1 iB 0 l2).trans hi
  have hc1 := ((bcell hE).1 cB 0 l3).trans hc
  have m1 := Nat.lt_of_lt_of_le l1 hE.size
  have m2 := Nat.lt_of_lt_of_le l2 hE.size
  have m3 := Nat.lt_of_lt_of_le l3 hE.size
  clear hs hi hc key hok
  replace hr := hide hr
  replace hwd := hide hwd
  replace hrd := hide hrd
  by_cases h1 : r = 65533
  · have hb : Hid (okR s p = decide ((1 : Int) < (wd : Int))) := hide (by rw [hrd.out, decide_eq_true h1, Bool.not_true, Bool.false_or]; exact decide_eq_decide.2 (by omega))
    subst h1
    go_wp2
    go_ret2
    exact ⟨by rw [hb.out, ← hr.out]; rfl, hE⟩
  · have hb : Hid (okR s p = true) := hide (by rw [hrd.out, decide_eq_false h1]; rfl)
    have f1 : ((r : Int) == 65533) = false := by rw [beq_eq_false_iff_ne]; omega
    have f2 : ((r : Int) != 65533) = true := by rw [bne, f1]; rfl
    have f3 : ¬ (r : Int) = 65533 := by omega
    replace h1 := hide h1
    go_wp2
    go_ret2
    exact ⟨by rw [hb.out, ← hr.out]; rfl, hE⟩
end Go.Proofs.YtlianjnmfgakkaaDoor
