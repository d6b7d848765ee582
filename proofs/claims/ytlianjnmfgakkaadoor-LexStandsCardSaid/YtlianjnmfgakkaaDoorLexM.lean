/- The stage's wakes. -/
import Derived.Test.YtlianjnmfgakkaaDoorLexK
import Derived.Test.YtlianjnmfgakkaaDoorLexL
import Derived.Test.YtlianjnmfgakkaaDoorLexD
namespace Go.Proofs.YtlianjnmfgakkaaDoor
open Go.RowKit

def wakeT : List Tok := [⟨1, 0, ⟨#[114, 101, 97, 100]⟩, false⟩, ⟨1, 5, ⟨#[84, 49]⟩, false⟩, ⟨1, 8, ⟨#[120]⟩, false⟩, ⟨1, 10, ⟨#[84, 50]⟩, false⟩, ⟨3, 12, ⟨#[46]⟩, true⟩, ⟨2, 13, ⟨#[51]⟩, true⟩, ⟨4, 20, ⟨#[10]⟩, false⟩]
theorem wake_one : allN ⟨#[114, 101, 97, 100, 32, 84, 49, 32, 120, 32, 84, 50, 46, 51, 32, 35, 32, 101, 110, 100, 10]⟩ = (wakeT, 21, 0) := by decide +kernel
theorem wake_two : allN ⟨#[97, 36]⟩ = ([], 1, 120) := by decide +kernel
theorem wake_three : allN ⟨#[57, 50, 50, 51, 51, 55, 50, 48, 51, 54, 56, 53, 52, 55, 55, 53, 56, 48, 56]⟩ = ([], 0, 121) := by decide +kernel
theorem wake_spell : spellN (wakeT.take 2) = ⟨#[114, 101, 97, 100, 32, 84, 49]⟩ := by decide +kernel
theorem wake_word : wordB ⟨#[97, 49]⟩ = true := by
  rw [← word_lex (s := ⟨#[97, 49]⟩) (by decide) (by decide), whileN_stp]
  decide +kernel
set_option maxRecDepth 100000 in
set_option maxHeartbeats 4000000 in
theorem wakes_any (w : World) (hU : LaidU w) : Calls Tryd.prog 9 #[] w fun e w' => e = .returned (.bool true) ∧ Ext w w' := by
  replace hU := hide hU
  go_enter Tryd.func9, Tryd.ntmps9
  go_wp2_with fail
  refine (all_any _ (by decide) _ hU.out).mono ?_
  rintro e w1 ⟨A1, n1, c1, rfl, hO1, hE1⟩
  rw [wake_one] at hO1 ⊢
  obtain ⟨A1', c1', he, hr1, hc1, -⟩ := hO1.rd
  injection he with e1 e2 e3
  subst e1 e2 e3
  obtain ⟨b1, o1, rfl, ra⟩ := hr1.at_ (i := 0) (by decide)
  clear hO1 hr1
  go_wp2_with fail
  refine (all_any _ (by decide) _ (hU.out.ext hE1)).mono ?_
  rintro e w2 ⟨A2, n2, c2, rfl, hO2, hE2⟩
  rw [wake_two] at hO2 ⊢
  have hE12 := hE1.trans (hE2.mono hE1.size)
  have ra2 := ra.ext hE2
  clear hO2 ra
  go_wp2_with fail
  refine (all_any _ (by decide) _ (hU.out.ext hE12)).mono ?_
  rintro e w3 ⟨A3, n3, c3, rfl, hO3, hE3⟩
  rw [wake_three] at hO3 ⊢
  have hE13 := hE12.trans (hE3.mono hE12.size)
  have ra3 := ra2.ext hE3
  clear hO3 ra2 hE1 hE2 hE3 hE12
  have k4 := (ra3.tok (i := 4) rfl).1
  have k5 := (ra3.tok (i := 5) rfl).2.2.2
  have k6 := (ra3.tok (i := 6) rfl).1
  have hb1 : b1 < w3.heap.size := ra3.1
  simp only [Nat.reduceMul] at k4 k5 k6
  have hc2 : 2 ≤ c1 := Nat.le_trans (by decide) hc1
  have hc2' : (2 : Int) ≤ (c1 : Int) := by omega
  have hlen : wakeT.length = 7 := rfl
  have hw := word_any ⟨#[97, 49]⟩ (hm := by decide)
  rw [wake_word] at hw
  have hrd : Rd tokE w3.heap.size w3 (some ⟨b1, o1, none⟩) (wakeT.take 2) := (Rd.take (.inr ⟨b1, o1, rfl, ra3⟩) 2)
  replace ra3 := hide ra3
  replace hrd := hide hrd
  replace hw := hide hw
  rw [hlen]
  simp only
  go_wp2_with fail
  refine (hw.out _ (hU.out.ext hE13)).mono ?_
  rintro e w4 ⟨rfl, hE4⟩
  have hE14 := hE13.trans (hE4.mono hE13.size)
  have hrd4 := hrd.out.ext hE4
  replace hrd4 := hide hrd4
  clear k4 k5 k6 hb1 hE4
  go_wp2_with fail
  refine (spell_any _ 2 c1 (wakeT.take 2) _ hrd4.out rfl (by decide) (by decide)).mono ?_
  rintro e w5 ⟨rfl, hE5⟩
  rw [wake_spell]
  go_wp2
  go_ret
  exact ⟨rfl, hE14.trans (hE5.mono hE14.size)⟩
end Go.Proofs.YtlianjnmfgakkaaDoor
