/- names: own. -/
import Derived.Test.YtpfmbehhppbcnaaDoorNamF
namespace Go.Proofs.YtpfmbehhppbcnaaDoor
open Go.RowKit

set_option maxRecDepth 100000 in
set_option maxHeartbeats 2000000 in
theorem own_any (A : Option Addr) (n c : Nat) (ws : List ByteArray) (w : World) (h : Rd strE w.heap.size w A ws) (hn : n = ws.length) (hnc : n ≤ c) :
    Calls Tryd.prog 15 #[.agg #[.slice A n c]] w fun e w' => ∃ v, e = .returned (.agg #[v]) ∧ Own strE 9 w.heap.size w' v (ws.take 301) ∧ Ext w w' := by
  replace h := hide h
  replace hn := hide hn
  go_enter Tryd.func15, Tryd.ntmps15
  go_upto_region 1 with fail
  obtain ⟨w0, hw0⟩ : ∃ w0, w0 = (w.alloc (.cells #[.slice A n c] 27)).alloc (.cells #[.slice none 0 0] 27) := ⟨_, rfl⟩
  rw [← hw0]
  have hE0 : Ext w w0 := by rw [hw0]; exact ((Below.refl _ _).alloc (Nat.le_refl _) _).alloc (by simp) _
  have hc1 : w0.cell? ⟨w.heap.size, 0, none⟩ = some (.slice A n c) := by rw [hw0]; exact ((Box.new w _ _).alloc _).cell
  have hx2 : Box w0 (w.heap.size + 1) 27 (.slice none 0 0) := by
    rw [hw0]
    have := Box.new (w.alloc (.cells #[.slice A n c] 27)) 27 (.slice none 0 0)
    rw [World.size_alloc] at this
    exact this
  have hsz : w0.heap.size = w.heap.size + 1 + 1 := by rw [hw0]; simp
  clear hw0
  obtain ⟨b2, hb2⟩ : ∃ b, b = w.heap.size + 1 := ⟨_, rfl⟩
  rw [← hb2] at hx2 hsz ⊢
  have hb1 : w.heap.size < w0.heap.size := by omega
  have hb2' : w.heap.size ≤ b2 := by omega
  clear hb2 hsz
  replace hx2 := hide hx2
  obtain ⟨q, hq⟩ : ∃ q, q = min n 301 := ⟨_, rfl⟩
  have z1 : min (n : Int) 301 = q := by omega
  have z2 : q ≤ n := by omega
  have z3 : (q : Int) ≤ c := by omega
  have z4 : q ≤ c := by omega
  have z5 : q ≤ 301 := by omega
  have ht : ws.take 301 = ws.take q := by
    rw [hq]
    by_cases h40 : n ≤ 301
    · rw [Nat.min_eq_left h40, hn.out, List.take_length, List.take_of_length_le (by rw [← hn.out]; exact h40)]
    · rw [Nat.min_eq_right (by omega)]
  have hlq : q = (ws.take q).length := by rw [List.length_take, ← hn.out]; omega
  replace ht := hide ht
  replace hq := hide hq
  replace hlq := hide hlq
  have hr := hide ((h.out.ext hE0).take q)
  cases A with
  | none =>
    have hws : ws = [] := by
      rcases h.out with h | ⟨_, _, h, _⟩
      · exact h
      · cases h
    have hn0 : n = 0 := by rw [hn.out, hws]; rfl
    subst hn0
    have hq0 : q = 0 := by omega
    subst hq0
    go_wp2_with fail
    refine (cloneS_any none 0 _ _ _ hr.out hlq.out (by omega)).mono ?_
    rintro e w1 ⟨v, rfl, hO, hE1⟩
    obtain ⟨A7, c7, rfl, -, -, -⟩ := hO.rd
    rw [← hlq.out] at hO ⊢
    have hx3 := hx2.out.ext hE1
    have hB := hE0.trans (hE1.mono hE0.size)
    have hcb := hx3.cell
    have hfb := hx3.free
    have hsb := hx3.lt
    have hO5 := hide ((hO.base_le hE0.size).set hx3 (by decide) (.slice A7 0 c7))
    have hx4 := hide (hx3.set (.slice A7 0 c7))
    clear hO
    go_wp2
    refine bodyPost_ret (results_cell_row rfl _ _ b2 27 _ _ _ rfl hx4.out Tryd.underlying27 rfl (by kernel_rfl)) rfl ?_
    exact ⟨_, rfl, by rw [ht.out]; exact hO5.out, hB.setCell (p := ⟨b2, 0, none⟩) hb2' _⟩
  | some a =>
    go_wp2_with fail
    refine (cloneS_any (some a) q _ _ _ hr.out hlq.out (by omega)).mono ?_
    rintro e w1 ⟨v, rfl, hO, hE1⟩
    obtain ⟨A7, c7, rfl, -, -, -⟩ := hO.rd
    rw [← hlq.out] at hO ⊢
    have hx3 := hx2.out.ext hE1
    have hB := hE0.trans (hE1.mono hE0.size)
    have hcb := hx3.cell
    have hfb := hx3.free
    have hsb := hx3.lt
    have hO5 := hide ((hO.base_le hE0.size).set hx3 (by decide) (.slice A7 q c7))
    have hx4 := hide (hx3.set (.slice A7 q c7))
    clear hO
    go_wp2
    refine bodyPost_ret (results_cell_row rfl _ _ b2 27 _ _ _ rfl hx4.out Tryd.underlying27 rfl (by kernel_rfl)) rfl ?_
    exact ⟨_, rfl, by rw [ht.out]; exact hO5.out, hB.setCell (p := ⟨b2, 0, none⟩) hb2' _⟩
end Go.Proofs.YtpfmbehhppbcnaaDoor
