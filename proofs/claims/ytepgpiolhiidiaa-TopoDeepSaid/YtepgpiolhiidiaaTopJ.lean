/- slices.ContainsFunc of edges. -/
import Derived.Test.YtepgpiolhiidiaaGraO
namespace Go.Proofs.Ytepgpiolhiidiaa
open Go.RowKit Go.Shelf
set_option maxHeartbeats 1000000 in
theorem indexE_any (A : Option Addr) (n c : Nat) (xs : List (Int × Int × Int)) (hf : FuncId) (cb : Array Value) (p : Int × Int × Int → Bool) (w : World) (h : Rd edgeE w.heap.size w A xs) (hn : n = xs.length) (hl : n ≤ 1000000) (hH : HoldP hf cb xs p w) :
    Calls Try.prog 49 #[.slice A n c, .func (.func hf) #[] cb] w fun e w' => ∃ z : Int, e = .returned (.int .i64 z) ∧ decide (0 ≤ z) = xs.any p ∧ Ext w w' := by
  replace h := hide h
  replace hn := hide hn
  obtain ⟨henter, hask⟩ := hH
  replace hask := hide hask
  go_enter Try.func49, Try.ntmps49
  go_wp2
  go_loopw [8] (fun i wr => ∃ k : Nat, k ≤ n ∧ i = .int .i64 k ∧ Hid ((xs.take k).any p = false) ∧ Ext w wr) (fun i _ => n - (intOf i).toNat)
  case atStart => exact ⟨0, Nat.zero_le _, rfl, hide rfl, Below.refl _ _⟩
  case round =>
    obtain ⟨k, hk, rfl, hall, hE⟩ := hrel
    by_cases hlt : k < n
    · have hlt' : (k : Int) < (n : Int) := by omega
      obtain ⟨bk, off, rfl, ra⟩ := h.out.at_ (i := k) (by rw [← hn.out]; exact hlt)
      obtain ⟨⟨p1, p2, p3⟩, hx⟩ := get_some (xs := xs) (i := k) (by rw [← hn.out]; exact hlt)
      obtain ⟨hx1, hx2, hx3⟩ := (ra.below hE).edge hx
      have hbk : bk < wr.heap.size := cell_lt hx1
      have htk : Hid ((xs.take (k + 1)).any p = p (p1, p2, p3)) := hide (by rw [take_snoc hx, List.any_append, hall.out]; simp)
      have hme : (p1, p2, p3) ∈ xs := List.mem_of_getElem? hx
      have hC := hide (hask.out p1 p2 p3 wr hme hE)
      replace hme := hide hme
      replace hx := hide hx
      replace ra := hide ra
      go_wp2_with fail
      refine hC.out.mono ?_
      rintro e w1 ⟨rfl, hE1⟩
      have hE2 := hE.trans (hE1.mono hE.size)
      clear hC hx1 hx2 hx3 hE1 hE
      cases hm : p (p1, p2, p3) with
      | false =>
        have ht2 : Hid ((xs.take (k + 1)).any p = false) := hide (by rw [htk.out, hm])
        clear htk
        replace hm := hide hm
        go_wp2
        refine ⟨?_, ?_⟩
        · first
            | exact ⟨k + 1, by omega, by go_num, ht2, hE2⟩
            | ((repeat apply Exists.intro); exact ⟨⟨k + 1, by omega, by go_num, ht2, hE2⟩, rfl⟩)
        · first | (simp [intOf, lenV]; omega) | (simp [intOf]; omega) | (simp [intOf]; done)
      | true =>
        have hna : Hid (decide (0 ≤ (k : Int)) = xs.any p) := hide (by
          rw [decide_eq_true (by omega)]
          have : xs.any p = true := by rw [List.any_eq_true]; exact ⟨_, hme.out, hm⟩
          rw [this])
        clear htk
        replace hm := hide hm
        go_wp2
        go_ret
        exact ⟨_, rfl, hna.out, hE2⟩
    · have hlt' : ¬ (k : Int) < (n : Int) := by omega
      have hna : Hid (decide (0 ≤ (-1 : Int)) = xs.any p) := hide (by
        have hkn : k = n := by omega
        have := hall.out
        rw [hkn, hn.out, List.take_length] at this
        rw [this]; rfl)
      go_wp2
      go_ret
      exact ⟨_, rfl, hna.out, hE⟩
set_option maxHeartbeats 1000000 in
theorem containsE_any (A : Option Addr) (n c : Nat) (xs : List (Int × Int × Int)) (hf : FuncId) (cb : Array Value) (p : Int × Int × Int → Bool) (w : World) (h : Rd edgeE w.heap.size w A xs) (hn : n = xs.length) (hl : n ≤ 1000000) (hH : HoldP hf cb xs p w) :
    Calls Try.prog 24 #[.slice A n c, .func (.func hf) #[] cb] w fun e w' => e = .returned (.bool (xs.any p)) ∧ Ext w w' := by
  have hi := hide (indexE_any A n c xs hf cb p w h hn hl hH)
  clear h hH
  replace hn := hide hn
  go_enter Try.func24, Try.ntmps24
  go_wp2_with fail
  refine hi.out.mono ?_
  rintro e w1 ⟨z, rfl, hz, hE⟩
  replace hz := hide hz
  clear hi
  go_wp2
  go_ret
  exact ⟨by rw [← hz.out]; rfl, hE⟩
end Go.Proofs.Ytepgpiolhiidiaa
