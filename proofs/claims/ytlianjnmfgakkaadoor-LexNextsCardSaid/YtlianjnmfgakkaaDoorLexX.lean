/- LexNexts' walk. -/
import Derived.Test.YtlianjnmfgakkaaDoorLexM
import Derived.Test.YtlianjnmfgakkaaDoorLexI
import Derived.Test.YtlianjnmfgakkaaDoorLexY
namespace Go.Proofs.YtlianjnmfgakkaaDoor
open Go.RowKit

theorem RdAt.int1 {B : Nat} {w : World} {b off : Nat} {xs : List Int} (h : RdAt intE B w b off xs) {i : Nat} {x : Int} (hx : xs[i]? = some x) : w.cell? ⟨b, off + i, none⟩ = some (.int .i64 x) := by
  have := h.2 i x hx 0 _ rfl
  rw [show off + i * intE.sz + 0 = off + i from by show off + i * 1 + 0 = off + i; omega] at this
  exact this
set_option maxRecDepth 100000 in
set_option maxHeartbeats 4000000 in
theorem lexNexts_any (s : ByteArray) (A : Option Addr) (n c : Nat) (xs : List Int) (w : World) (hsm : s.size ≤ maxLen) (hn : n = xs.length) (hm : n ≤ maxLen) (h : Rd intE w.heap.size w A xs) (hU : LaidU w) :
    Calls Tryd.prog 4 #[.string s, .slice A n c] w fun e w' => e = .returned (.bool true) ∧ Ext w w' := by
  have hm63 : n ≤ 9223372036854775807 := hm
  replace hn := hide hn
  replace h := hide h
  replace hU := hide hU
  have hcz := cutN_size s
  have hcut := cut_any s hsm
  obtain ⟨t, ht⟩ : ∃ t, t = cutN s := ⟨_, rfl⟩
  rw [← ht] at hcz hcut
  replace hcut := hide hcut
  replace ht := hide ht
  go_enter Tryd.func4, Tryd.ntmps4
  go_wp2_with fail
  refine (wakes_any _ hU.out).mono ?_
  rintro e w1 ⟨rfl, hE1⟩
  go_wp2_with fail
  refine (hcut.out _).mono ?_
  rintro e w2 ⟨rfl, hw⟩
  rw [hw]
  clear hw
  go_wp2
  go_loopw [19] (fun i wr => ∃ k : Nat, k ≤ n ∧ i = .int .i64 (k : Int) ∧ Ext w wr) (fun i _ => n - (intOf i).toNat)
  case atStart => exact ⟨0, Nat.zero_le _, rfl, hE1⟩
  case round =>
    clear hE1
    obtain ⟨k, hk, rfl, hB⟩ := hrel
    by_cases hlt : k < n
    · have hlt' : (k : Int) < (n : Int) := by omega
      obtain ⟨bk, off, rfl, ra⟩ := h.out.at_ (i := k) (by rw [← hn.out]; exact hlt)
      obtain ⟨z, hx⟩ := get_some (xs := xs) (i := k) (by rw [← hn.out]; exact hlt)
      have x1 := (ra.ext hB).int1 hx
      have hbk := Nat.lt_of_lt_of_le ra.1 hB.size
      replace ra := hide ra
      replace hx := hide hx
      by_cases h12 : k = 12
      · subst h12
        go_wp2
        go_ret
        exact ⟨rfl, hB⟩
      · have e12 : ((k : Int) == 12) = false := by rw [beq_eq_false_iff_ne]; omega
        have e12' : ¬ (k : Int) = 12 := by omega
        replace h12 := hide h12
        by_cases hz : 0 ≤ z ∧ z ≤ (t.size : Int)
        · obtain ⟨p, rfl⟩ : ∃ p : Nat, z = (p : Int) := ⟨z.toNat, by omega⟩
          have hp : p ≤ t.size := by omega
          have hp' : (p : Int) ≤ (t.size : Int) := by omega
          clear hz
          have hnx := next_any t p hp (by omega)
          have hrx := refNext_any t p hp (by omega)
          obtain ⟨N, hN⟩ : ∃ N, N = nextN t p := ⟨_, rfl⟩
          rw [← hN] at hnx hrx
          obtain ⟨⟨kd, pl, tx, gl⟩, q, er⟩ := N
          simp only at hnx hrx
          replace hnx := hide hnx
          replace hrx := hide hrx
          replace hN := hide hN
          go_wp2_with fail
          refine (hnx.out _ (hU.out.ext hB)).mono ?_
          rintro e w2 ⟨rfl, hE2⟩
          dsimp only [tokV]
          have hB2 := hB.trans (hE2.mono hB.size)
          clear hE2 x1 hbk hnx
          go_upto_region 10 with fail
          obtain ⟨wa, hwa⟩ : ∃ x, x = w2.alloc (.cells #[.int .i64 kd, .int .i64 pl, .string tx, .bool gl] 29) := ⟨_, rfl⟩
          rw [← hwa]
          obtain ⟨wb, hwb⟩ : ∃ x, x = wa.alloc (.cells #[.int .i64 0, .int .i64 0, .string ⟨#[]⟩, .bool false] 29) := ⟨_, rfl⟩
          rw [← hwb]
          have za : wa.heap.size = w2.heap.size + 1 := by rw [hwa]; simp
          have X7 : BoxN wb w2.heap.size 29 #[.int .i64 kd, .int .i64 pl, .string tx, .bool gl] := by rw [hwb, hwa]; exact (BoxN.new w2 _ _).alloc _
          have X10 : BoxN wb (w2.heap.size + 1) 29 #[.int .i64 0, .int .i64 0, .string ⟨#[]⟩, .bool false] := by rw [hwb, ← za]; exact BoxN.new wa _ _
          have hB3 : Ext w wb := by rw [hwb, hwa]; exact (hB2.alloc hB2.size _).alloc (by have := hB2.size; simp; omega) _
          clear hwa hwb za
          obtain ⟨p7, hp7⟩ : ∃ b, b = w2.heap.size := ⟨_, rfl⟩
          rw [← hp7] at X7 X10 ⊢
          obtain ⟨p10, hp10⟩ : ∃ b, b = p7 + 1 := ⟨_, rfl⟩
          rw [← hp10] at X10 ⊢
          have hne : p7 ≠ p10 := by omega
          have hle10 : w.heap.size ≤ p10 := by have := hB2.size; omega
          clear hp7 hp10 hB2
          go_wp2_with fail
          refine (hrx.out _).mono ?_
          rintro e w3 ⟨rfl, hE3⟩
          dsimp only [tokV]
          replace X7 := X7.ext hE3
          replace X10 := X10.ext hE3
          have hB4 := hB3.trans (hE3.mono hB3.size)
          clear hE3 hrx hB3
          have s10 := X10.lt
          have f100 := X10.free 0
          have f101 := X10.free 1
          have f102 := X10.free 2
          have f103 := X10.free 3
          have c100 := X10.cell 0 (v := .int .i64 0) rfl
          have c101 := X10.cell 1 (v := .int .i64 0) rfl
          have c102 := X10.cell 2 (v := .string ⟨#[]⟩) rfl
          have c103 := X10.cell 3 (v := .bool false) rfl
          have c70 := X7.cell 0 (v := .int .i64 kd) rfl
          have c71 := X7.cell 1 (v := .int .i64 pl) rfl
          have c72 := X7.cell 2 (v := .string tx) rfl
          have c73 := X7.cell 3 (v := .bool gl) rfl
          have s7 := X7.lt
          have hB5 := hide ((((hB4.setCell (p := ⟨p10, 0, none⟩) hle10 (.int .i64 kd)).setCell (p := ⟨p10, 1, none⟩) hle10 (.int .i64 pl)).setCell (p := ⟨p10, 2, none⟩) hle10 (.string tx)).setCell (p := ⟨p10, 3, none⟩) hle10 (.bool gl))
          have hns := neT_self ⟨kd, pl, tx, gl⟩
          replace X7 := hide X7
          replace X10 := hide X10
          clear hB4
          go_wp2
          refine ⟨?_, ?_⟩
          · first
              | exact ⟨k + 1, by omega, by go_num, hB5.out⟩
              | ((repeat apply Exists.intro); exact ⟨⟨k + 1, by omega, by go_num, hB5.out⟩, rfl⟩)
          · first | (simp [intOf, lenV]; omega) | (simp [intOf]; omega) | (simp [intOf]; done)
        · have hnx := next_out t z (by omega)
          have hz1 : ¬ 0 ≤ z ∨ ¬ z ≤ (t.size : Int) := by omega
          clear hz
          replace hnx := hide hnx
          go_wp2_with fail
          refine (hnx.out _).mono ?_
          rintro e w2 ⟨rfl, hE2⟩
          dsimp only [tokV, zeroT]
          have hB2 := hB.trans (hE2.mono hB.size)
          clear hE2 x1 hbk hnx
          go_upto_region 10 with fail
          obtain ⟨wa, hwa⟩ : ∃ x, x = w2.alloc (.cells #[.int .i64 0, .int .i64 0, .string ⟨#[]⟩, .bool false] 29) := ⟨_, rfl⟩
          rw [← hwa]
          obtain ⟨wb, hwb⟩ : ∃ x, x = wa.alloc (.cells #[.int .i64 0, .int .i64 0, .string ⟨#[]⟩, .bool false] 29) := ⟨_, rfl⟩
          rw [← hwb]
          have za : wa.heap.size = w2.heap.size + 1 := by rw [hwa]; simp
          have X7 : BoxN wb w2.heap.size 29 #[.int .i64 0, .int .i64 0, .string ⟨#[]⟩, .bool false] := by rw [hwb, hwa]; exact (BoxN.new w2 _ _).alloc _
          have X10 : BoxN wb (w2.heap.size + 1) 29 #[.int .i64 0, .int .i64 0, .string ⟨#[]⟩, .bool false] := by rw [hwb, ← za]; exact BoxN.new wa _ _
          have hB3 : Ext w wb := by rw [hwb, hwa]; exact (hB2.alloc hB2.size _).alloc (by have := hB2.size; simp; omega) _
          clear hwa hwb za
          obtain ⟨p7, hp7⟩ : ∃ b, b = w2.heap.size := ⟨_, rfl⟩
          rw [← hp7] at X7 X10 ⊢
          obtain ⟨p10, hp10⟩ : ∃ b, b = p7 + 1 := ⟨_, rfl⟩
          rw [← hp10] at X10 ⊢
          have hne : p7 ≠ p10 := by omega
          have hle10 : w.heap.size ≤ p10 := by have := hB2.size; omega
          clear hp7 hp10 hB2
          have c70 := X7.cell 0 (v := .int .i64 0) rfl
          have c71 := X7.cell 1 (v := .int .i64 0) rfl
          have c72 := X7.cell 2 (v := .string ⟨#[]⟩) rfl
          have c73 := X7.cell 3 (v := .bool false) rfl
          have s7 := X7.lt
          have c100 := X10.cell 0 (v := .int .i64 0) rfl
          have c101 := X10.cell 1 (v := .int .i64 0) rfl
          have c102 := X10.cell 2 (v := .string ⟨#[]⟩) rfl
          have c103 := X10.cell 3 (v := .bool false) rfl
          have s10 := X10.lt
          have hns := neT_self ⟨0, 0, ⟨#[]⟩, false⟩
          replace X7 := hide X7
          replace X10 := hide X10
          by_cases h0 : 0 ≤ z
          · have h1 : ¬ z ≤ (t.size : Int) := by omega
            clear hz1
            go_wp2
            refine ⟨?_, ?_⟩
            · first
                | exact ⟨k + 1, by omega, by go_num, hB3⟩
                | ((repeat apply Exists.intro); exact ⟨⟨k + 1, by omega, by go_num, hB3⟩, rfl⟩)
            · first | (simp [intOf, lenV]; omega) | (simp [intOf]; omega) | (simp [intOf]; done)
          · clear hz1
            go_wp2
            refine ⟨?_, ?_⟩
            · first
                | exact ⟨k + 1, by omega, by go_num, hB3⟩
                | ((repeat apply Exists.intro); exact ⟨⟨k + 1, by omega, by go_num, hB3⟩, rfl⟩)
            · first | (simp [intOf, lenV]; omega) | (simp [intOf]; omega) | (simp [intOf]; done)
    · have hlt' : ¬ (k : Int) < (n : Int) := by omega
      go_wp2
      go_ret
      exact ⟨rfl, hB⟩
end Go.Proofs.YtlianjnmfgakkaaDoor
