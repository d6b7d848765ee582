/- LexWords' walk. -/
import Derived.Test.YtlianjnmfgakkaaDoorLexM
import Derived.Test.YtlianjnmfgakkaaDoorLexE
namespace Go.Proofs.YtlianjnmfgakkaaDoor
open Go.RowKit

theorem RdAt.str1 {B : Nat} {w : World} {b off : Nat} {xs : List ByteArray} (h : RdAt strE B w b off xs) {i : Nat} {x : ByteArray} (hx : xs[i]? = some x) : w.cell? ⟨b, off + i, none⟩ = some (.string x) := by
  have := h.2 i x hx 0 _ rfl
  rw [show off + i * strE.sz + 0 = off + i from by show off + i * 1 + 0 = off + i; omega] at this
  exact this
set_option maxHeartbeats 2000000 in
theorem lexWords_any (A : Option Addr) (n c : Nat) (xs : List ByteArray) (w : World) (hn : n = xs.length) (hm : n ≤ maxLen) (h : Rd strE w.heap.size w A xs) (hs : ∀ x ∈ xs, x.size ≤ maxLen) (hU : LaidU w) :
    Calls Tryd.prog 3 #[.slice A n c] w fun e w' => e = .returned (.bool true) ∧ Ext w w' := by
  have hm63 : n ≤ 9223372036854775807 := hm
  replace hn := hide hn
  replace h := hide h
  replace hU := hide hU
  go_enter Tryd.func3, Tryd.ntmps3
  go_wp2_with fail
  refine (wakes_any _ hU.out).mono ?_
  rintro e w1 ⟨rfl, hE1⟩
  go_wp2
  go_loopw [9] (fun i wr => ∃ k : Nat, k ≤ n ∧ i = .int .i64 (k : Int) ∧ Ext w wr) (fun i _ => n - (intOf i).toNat)
  case atStart => exact ⟨0, Nat.zero_le _, rfl, hE1⟩
  case round =>
    clear hE1
    obtain ⟨k, hk, rfl, hB⟩ := hrel
    by_cases hlt : k < n
    · have hlt' : (k : Int) < (n : Int) := by omega
      obtain ⟨bk, off, rfl, ra⟩ := h.out.at_ (i := k) (by rw [← hn.out]; exact hlt)
      obtain ⟨x, hx⟩ := get_some (xs := xs) (i := k) (by rw [← hn.out]; exact hlt)
      have x1 := (ra.ext hB).str1 hx
      have hbk := Nat.lt_of_lt_of_le ra.1 hB.size
      have hxm := hs _ (List.mem_of_getElem? hx)
      replace ra := hide ra
      replace hx := hide hx
      by_cases h12 : k = 12
      · subst h12
        go_wp2
        go_ret
        exact ⟨rfl, hB⟩
      · have e12 : ((k : Int) == 12) = false := by rw [beq_eq_false_iff_ne]; omega
        have e12' : ¬ (k : Int) = 12 := by omega
        obtain ⟨q, hq⟩ : ∃ q, q = min x.size 60 := ⟨_, rfl⟩
        have z1 : min (x.size : Int) 60 = (q : Int) := by omega
        have z2 : q ≤ x.size := by omega
        have z3 : (q : Int) ≤ (x.size : Int) := by omega
        have hq60 : q ≤ 60 := by omega
        obtain ⟨y, hy⟩ : ∃ y, y = x.extract 0 q := ⟨_, rfl⟩
        have hyz : y.size ≤ maxLen := by
          have h1 : y.size ≤ 60 := by rw [hy, ByteArray.size_extract]; omega
          have h2 : 60 ≤ maxLen := by decide
          omega
        have hy' := hy.symm
        replace hy := hide hy
        replace hq := hide hq
        replace h12 := hide h12
        go_wp2_with fail
        try rw [hy']
        refine (word_any y _ hyz (hU.out.ext hB)).mono ?_
        rintro e w2 ⟨rfl, hE2⟩
        have hB2 := hB.trans (hE2.mono hB.size)
        clear hE2 x1 hbk
        go_wp2_with fail
        refine (refWord_any y _ hyz).mono ?_
        rintro e w3 ⟨rfl, hE3⟩
        have hB3 := hB2.trans (hE3.mono hB2.size)
        clear hE3
        obtain ⟨b, hb⟩ : ∃ b, b = wordB y := ⟨_, rfl⟩
        rw [← hb]
        replace hb := hide hb
        have hbb : (b != b) = false := by simp
        go_wp2
        refine ⟨?_, ?_⟩
        · first
            | exact ⟨k + 1, by omega, by go_num, hB3⟩
            | ((repeat apply Exists.intro); exact ⟨⟨k + 1, by omega, by go_num, hB3⟩, rfl⟩)
        · first | (simp [intOf, lenV]; omega) | (simp [intOf]; omega) | (simp [intOf]; done)
    · have hlt' : ¬ (k : Int) < (n : Int) := by omega
      go_wp2
      go_ret
      exact ⟨rfl, hB⟩
end Go.Proofs.YtlianjnmfgakkaaDoor
