/- Contracts of sums: a total that goes on, the number that it is, sums of two and of all. -/
import Derived.Test.YtfkmbnlpdolemaaDigA
namespace Go.Proofs.Ytfkmbnlpdolemaa
open Go.RowKit

theorem ret_agg2 {a a' b b' : Int} (h1 : a = a') (h2 : b = b') : Value.agg #[.int .u64 a, .int .i64 b] = .agg #[.int .u64 a', .int .i64 b'] := by rw [h1, h2]
/-- a total, of a whole number -/
def totV (S : Int) : Value := .agg #[.int .u64 (S % 18446744073709551616), .int .i64 (S / 18446744073709551616)]
def small (S : Int) : Prop := -85070591730234615865843651857942052864 ≤ S ∧ S ≤ 85070591730234615865843651857942052864
set_option maxHeartbeats 1000000 in
theorem add_any (S n : Int) (hS : small S) (hn : in64 n) (w : World) :
    Calls Try.prog 31 #[totV S, .int .i64 n] w fun e w' => e = .returned (totV (S + n)) ∧ Ext w w' := by
  unfold totV
  obtain ⟨lo, hlo⟩ : ∃ lo : Int, lo = S % 18446744073709551616 := ⟨_, rfl⟩
  obtain ⟨hi, hhi⟩ : ∃ hi : Int, hi = S / 18446744073709551616 := ⟨_, rfl⟩
  rw [← hlo, ← hhi]
  have h0 : 0 ≤ lo := by omega
  have hu : 0 ≤ IntKind.u64.wrap n := by rw [IntKind.wrap_u64]; omega
  replace hlo := hide hlo
  replace hhi := hide hhi
  replace hS := hide hS
  replace hn := hide hn
  go_enter Try.func31, Try.ntmps31
  go_wp2_with (simp only [add64_run _ _ h0 hu])
  have e1 := hlo.out
  have e2 := hhi.out
  have e3 := hS.out
  have e4 := hn.out
  unfold small at e3
  unfold in64 at e4
  refine bodyPost_ret (v := totV (S + n)) ?_ rfl ⟨rfl, ?_⟩
  · rw [results_cell_one rfl]
    go_simp
    refine ret_agg2 ?_ ?_
    · rw [IntKind.wrap_u64]
      omega
    · have f1 : -4611686018427387905 ≤ hi ∧ hi ≤ 4611686018427387905 := by omega
      have f2 : IntKind.u64.wrap n = n - 18446744073709551616 * (n / 9223372036854775808) := by rw [IntKind.wrap_u64]; omega
      have f3 : -1 ≤ n / 9223372036854775808 ∧ n / 9223372036854775808 ≤ 0 := by omega
      rw [f2]
      generalize n / 9223372036854775808 = q at *
      simp only [wrap64]
      omega
  · repeat' (first | exact Below.refl _ _ | refine Below.alloc ?_ (by simp <;> omega) _ | refine Below.setCell ?_ (by simp <;> omega) _ | refine Below.drew ?_)

set_option maxHeartbeats 1000000 in
theorem fits_any (S : Int) (hS : small S) (w : World) :
    Calls Try.prog 32 #[totV S] w fun e w' => e = .returned (.tuple #[.int .i64 (fit S).1, .bool (fit S).2]) ∧ Ext w w' := by
  unfold totV
  obtain ⟨lo, hlo⟩ : ∃ lo : Int, lo = S % 18446744073709551616 := ⟨_, rfl⟩
  obtain ⟨hi, hhi⟩ : ∃ hi : Int, hi = S / 18446744073709551616 := ⟨_, rfl⟩
  rw [← hlo, ← hhi]
  replace hlo := hide hlo
  replace hhi := hide hhi
  replace hS := hide hS
  go_enter Try.func32, Try.ntmps32
  go_wp2
  · rename_i h
    have e1 := hlo.out
    have e2 := hhi.out
    go_ret2
    refine ⟨tup2 ?_ ?_, ?_⟩
    · unfold fit wrap64
      unfold wrap64 at h
      rw [if_pos (by omega)]
      show _ = S
      omega
    · unfold fit
      unfold wrap64 at h
      rw [if_pos (by omega)]
    · repeat' (first | exact Below.refl _ _ | refine Below.alloc ?_ (by simp <;> omega) _ | refine Below.setCell ?_ (by simp <;> omega) _ | refine Below.drew ?_)
  · rename_i h
    have e1 := hlo.out
    have e2 := hhi.out
    go_ret2
    refine ⟨?_, ?_⟩
    · unfold fit
      unfold wrap64 at h
      rw [if_neg (by omega)]
      rfl
    · repeat' (first | exact Below.refl _ _ | refine Below.alloc ?_ (by simp <;> omega) _ | refine Below.setCell ?_ (by simp <;> omega) _ | refine Below.drew ?_)

theorem small_in {a : Int} (h : in64 a) : small a := by unfold in64 at h; unfold small; omega
theorem small_two {a b : Int} (h : in64 a) (h' : in64 b) : small (a + b) := by unfold in64 at h h'; unfold small; omega
theorem small_zero : small 0 := by unfold small; omega
set_option maxHeartbeats 1000000 in
theorem sum2_any (a b : Int) (ha : in64 a) (hb : in64 b) (w : World) :
    Calls Try.prog 18 #[.int .i64 a, .int .i64 b] w fun e w' => e = .returned (.tuple #[.int .i64 (fit (a + b)).1, .bool (fit (a + b)).2]) ∧ Ext w w' := by
  replace ha := hide ha
  replace hb := hide hb
  go_enter Try.func18, Try.ntmps18
  go_wp2_with fail
  refine (add_any 0 a small_zero ha.out _).mono ?_
  rintro e w1 ⟨rfl, hE1⟩
  rw [Int.zero_add]
  go_wp2_with fail
  refine (add_any a b (small_in ha.out) hb.out _).mono ?_
  rintro e w2 ⟨rfl, hE2⟩
  go_wp2_with fail
  refine (fits_any (a + b) (small_two ha.out hb.out) _).mono ?_
  rintro e w3 ⟨rfl, hE3⟩
  go_wp2
  go_ret2
  exact ⟨rfl, (hE1.trans (hE2.mono hE1.size)).trans (hE3.mono (Nat.le_trans hE1.size hE2.size))⟩

def errS (ok : Bool) : Int := if ok then 0 else 111
/-- a total lies in a block -/
def TotAt (w : World) (b : Nat) (S : Int) : Prop :=
  w.cell? ⟨b, 0, none⟩ = some (.int .u64 (S % 18446744073709551616)) ∧ w.cell? ⟨b, 1, none⟩ = some (.int .i64 (S / 18446744073709551616)) ∧ w.frozen? ⟨b, 0, none⟩ = false ∧ w.frozen? ⟨b, 1, none⟩ = false ∧ b < w.heap.size
theorem fit_no {s v : Int} (h : fit s = (v, false)) : v = 0 := by
  unfold fit at h
  split at h
  · cases h
  · cases h; rfl
theorem TotAt.ext {w w' : World} {b : Nat} {S : Int} (h : TotAt w b S) (hE : Ext w w') : TotAt w' b S := by
  obtain ⟨h1, h2, h3, h4, h5⟩ := h
  obtain ⟨hc, hf⟩ := bcell hE
  exact ⟨(hc _ _ h5).trans h1, (hc _ _ h5).trans h2, (hf _ _ h5).trans h3, (hf _ _ h5).trans h4, Nat.lt_of_lt_of_le h5 hE.size⟩
set_option maxHeartbeats 1000000 in
theorem goes_any (b : Nat) (S n : Int) (w : World) (hT : TotAt w b S) (hS : small S) (hn : in64 n) :
    Calls Try.prog 35 #[.int .i64 n, .pointer (some ⟨b, 0, none⟩)] w fun e w' => e = .returned (.tuple #[]) ∧ TotAt w' b (S + n) ∧ Below b w w' := by
  replace hS := hide hS
  replace hn := hide hn
  obtain ⟨t1, t2, t3, t4, t5⟩ := hT
  go_enter Try.func35, Try.ntmps35
  go_wp2_with fail
  refine (add_any S n hS.out hn.out _).mono ?_
  rintro e w1 ⟨rfl, hE⟩
  obtain ⟨q1, q2, q3, q4, q5⟩ := TotAt.ext ⟨t1, t2, t3, t4, t5⟩ hE
  clear t1 t2 t3 t4
  unfold totV
  go_wp2
  go_end0
  refine ⟨rfl, ⟨?_, ?_, ?_, ?_, ?_⟩, ?_⟩
  · exact (World.cell?_setCell_other _ _ _ _ (by simp)).trans (World.cell?_setCell_same _ _ _ q1)
  · exact World.cell?_setCell_same _ _ _ ((World.cell?_setCell_other _ _ _ _ (by simp)).trans q2)
  · simpa using q3
  · simpa using q4
  · simpa using q5
  · have := hE.mono (Nat.le_of_lt t5)
    exact Below.setCell (Below.setCell this (Nat.le_refl _) _) (Nat.le_refl _) _
theorem take_sum {xs : List Int} {k : Nat} {p : Int} (h : xs[k]? = some p) : (xs.take (k + 1)).sum = (xs.take k).sum + p := by
  rw [List.take_add_one, h]
  simp
theorem sum_small : ∀ xs : List Int, (∀ x ∈ xs, in64 x) → -(9223372036854775808 * xs.length : Int) ≤ xs.sum ∧ xs.sum ≤ 9223372036854775808 * xs.length
  | [], _ => by simp
  | x :: xs, h => by
    have h1 := h x (by simp)
    have h2 := sum_small xs (fun y hy => h y (List.mem_cons_of_mem _ hy))
    unfold in64 at h1
    simp only [List.sum_cons, List.length_cons]
    omega
theorem small_sum {xs : List Int} (h : ∀ x ∈ xs, in64 x) (hl : xs.length ≤ 1000000) : small xs.sum := by
  have := sum_small xs h
  unfold small
  omega
theorem small_take {xs : List Int} (h : ∀ x ∈ xs, in64 x) (hl : xs.length ≤ 1000000) (k : Nat) : small (xs.take k).sum :=
  small_sum (fun x hx => h x (List.mem_of_mem_take hx)) (by rw [List.length_take]; omega)
set_option maxHeartbeats 1000000 in
theorem sum_any (A : Option Addr) (n c : Nat) (xs : List Int) (w : World) (hn : n = xs.length) (h : Rd intE w.heap.size w A xs) (hx : ∀ x ∈ xs, in64 x) (hl : n ≤ 1000000) :
    Calls Try.prog 24 #[.slice A n c] w fun e w' => e = .returned (.tuple #[.int .i64 (fit xs.sum).1, .int .i64 (errS (fit xs.sum).2)]) ∧ Ext w w' := by
  replace hn := hide hn
  replace h := hide h
  replace hx := hide hx
  go_enter Try.func24, Try.ntmps24
  go_wp2
  go_loopw [13] (fun i wr => ∃ k : Nat, k ≤ n ∧ i = .int .i64 k ∧ Hid (TotAt wr w.heap.size (xs.take k).sum) ∧ Ext w wr) (fun i _ => n - (intOf i).toNat)
  case atStart =>
    refine ⟨0, Nat.zero_le _, rfl, hide ⟨?_, ?_, ?_, ?_, ?_⟩, ?_⟩
    · simp
    · simp
    · simp
    · simp
    · simp
    · repeat' (first | exact Below.refl _ _ | refine Below.alloc ?_ (by simp <;> omega) _ | refine Below.setCell ?_ (by simp <;> omega) _ | refine Below.drew ?_)
  case round =>
    obtain ⟨k, hk, rfl, hT, hB⟩ := hrel
    obtain ⟨hcc, hff⟩ := bcell hB
    have hsz := hB.size
    by_cases hlt : k < n
    · obtain ⟨b, off, rfl, hra⟩ := h.out.at_ (i := k) (by rw [← hn.out]; exact hlt)
      have hb1 := hra.1
      obtain ⟨p1, hp⟩ := get_some (xs := xs) (i := k) (by rw [← hn.out]; exact hlt)
      have hp1 := hra.int hp
      have hpin := hx.out _ (List.mem_of_getElem? hp)
      replace hp := hide hp
      replace hpin := hide hpin
      replace hra := hide hra
      obtain ⟨t1, t2, t3, t4, t5⟩ := hT.out
      clear t1 t2 t3 t4
      go_wp2_with fail
      refine (goes_any _ _ p1 _ hT.out (small_take hx.out (by rw [← hn.out]; exact hl) k) hpin.out).mono ?_
      rintro e w1 ⟨rfl, hT', hB1⟩
      rw [← take_sum hp.out] at hT'
      replace hT' := hide hT'
      have hB' := hB.trans hB1
      go_wp2
      refine ⟨?_, ?_⟩
      · first
          | exact ⟨k + 1, by omega, by go_num, hT', hB'⟩
          | ((repeat apply Exists.intro); exact ⟨⟨k + 1, by omega, by go_num, hT', hB'⟩, rfl⟩)
      · first | (simp [intOf, lenV]; omega) | (simp [intOf]; omega)
    · obtain rfl : k = n := by omega
      have e : xs.take k = xs := by rw [hn.out]; exact List.take_length
      have hT' : Hid (TotAt wr w.heap.size xs.sum) := hide (by rw [← e]; exact hT.out)
      have hs := small_sum hx.out (by rw [← hn.out]; exact hl)
      clear hT e
      obtain ⟨t1, t2, t3, t4, t5⟩ := hT'.out
      replace hs := hide hs
      go_wp2_with fail
      refine (fits_any xs.sum hs.out _).mono ?_
      rintro e w2 ⟨rfl, hE⟩
      have hB2 := hB.trans (hE.mono hsz)
      obtain ⟨v, hv⟩ : ∃ v, v = fit xs.sum := ⟨_, rfl⟩
      rw [← hv]
      replace hv := hide hv
      obtain ⟨v1, v2⟩ := v
      cases v2
      · go_wp2
        go_ret2
        exact ⟨by rw [← hv.out]; have : v1 = 0 := (fit_no hv.out.symm); subst this; rfl, hB2⟩
      · go_wp2
        go_ret2
        exact ⟨by rw [← hv.out]; rfl, hB2⟩
end Go.Proofs.Ytfkmbnlpdolemaa
