/- slices.Grow of the nil row, slices.Concat of rows of edges. -/
import Derived.Test.YtoihankkldafoaaGraW
import Derived.Lib.AppendZeros
namespace Go.Proofs.Ytoihankkldafoaa
open Go.RowKit

abbrev LArg := (Option Addr × Nat × Nat) × List (Int × Int × Int)
def LOk (w : World) (s : LArg) : Prop := Rd edgeE w.heap.size w s.1.1 s.2 ∧ s.1.2.1 = s.2.length ∧ s.2.length ≤ 20000
theorem LOk.ext {w w' : World} {s : LArg} (h : LOk w s) (hE : Ext w w') : LOk w' s := ⟨h.1.ext hE, h.2⟩
/-- a row of rows, as the variadic argument has them -/
def LRow (w : World) (A : Option Addr) (L : List LArg) : Prop := (L = [] ∨ ∃ b off, A = some ⟨b, off, none⟩ ∧ b < w.heap.size ∧ ∀ i s, L[i]? = some s → w.cell? ⟨b, off + i, none⟩ = some (.slice s.1.1 s.1.2.1 s.1.2.2)) ∧ ∀ s ∈ L, LOk w s
def flatI (L : List LArg) : List (Int × Int × Int) := (L.map (·.2)).flatten
theorem flatI_snoc (L : List LArg) (s : LArg) : flatI (L ++ [s]) = flatI L ++ s.2 := by simp [flatI]
theorem flatI_len : ∀ (L : List LArg), (∀ s ∈ L, s.2.length ≤ 20000) → (flatI L).length ≤ L.length * 20000 := by
  intro L
  induction L with
  | nil => intro _; simp [flatI]
  | cons s L ih =>
    intro h
    have h1 := ih fun x hx => h x (by simp [hx])
    have h2 := h s (by simp)
    simp only [flatI, List.map_cons, List.flatten_cons, List.length_append, List.length_cons] at h1 ⊢
    omega
theorem own_zeros {w : World} {n c : Nat} (hm : c ≤ maxLen) (z : Value) (hz : z.cells.size = 3) (hn : n ≤ c) :
    Own edgeE 35 w.heap.size (w.drew.alloc (.cells (Builtin.zeroCells z.cells n ++ Builtin.zeroCells z.cells (c - n)) 35)) (.slice (some ⟨w.heap.size, 0, none⟩) 0 c) [] := by
  refine ⟨by rw [El.row_length], .inr ⟨w.heap.size, c, _, rfl, Nat.le_refl _, heap_alloc_new w.drew _, Nat.zero_le _, hm, ?_, ?_⟩⟩
  · simp only [Array.size_append, size_zeroCells, hz, edgeE]; omega
  · simp [El.row]
set_option maxRecDepth 100000 in
set_option maxHeartbeats 2000000 in
theorem grow_any (n : Nat) (w : World) (hl : n ≤ 1000000) :
    Calls Try.prog 55 #[.slice none 0 0, .int .i64 n] w fun e w' => ∃ v, e = .returned v ∧ Own edgeE 35 w.heap.size w' v [] ∧ Ext w w' := by
  have h1 : ¬ ((n : Int) < 0) := by omega
  have u1 : IntKind.i64.wrap ((n : Int) - 0) = (n : Int) := by rw [IntWalk.i64_in _ (by omega)]; omega
  rcases Nat.eq_zero_or_pos n with h0 | h0
  · subst h0
    go_enter Try.func55, Try.ntmps55
    go_wp2
    go_ret
    exact ⟨_, rfl, Own.nil_, Below.refl _ _⟩
  · have h2 : (n : Int) > 0 := by omega
    obtain ⟨i, z, hi, hz, hsz, hby, hzs⟩ := tyEdge.info
    have hrz : ∀ ty, (Builtin.append_ #[22, 3] ty #[.slice none 0 0, .int .i64 (n : Int)]).run Try.prog w = .ok (.slice (some ⟨w.heap.size, 0, none⟩) n (grownCap w n 0 35)) (w.drew.alloc (.cells (Builtin.zeroCells z.cells n ++ Builtin.zeroCells z.cells (grownCap w n 0 35 - n)) 35)) := fun ty =>
      Lib.run_append_nil_zeros (P := Try.prog) w 22 3 ty 35 i z .i64 .i64 tyEdge.und (show Try.prog.underlying 3 = some (.int .i64) by kernel_rfl) hi hz n h0 (by rw [hsz]; decide) (by omega) (by rw [hby]; omega)
    have hge : n ≤ grownCap w n 0 35 := grownCap_ge w _ _ _
    have hle := grownCap_le_maxLen w n 0 35 (by unfold maxLen; omega)
    have hO := own_zeros (w := w) (n := n) hle z (by rw [hzs]; rfl) hge
    obtain ⟨G, hG⟩ : ∃ G, G = grownCap w n 0 35 := ⟨_, rfl⟩
    rw [← hG] at hO hge hle
    simp only [← hG] at hrz
    have hE : Ext w (w.drew.alloc (.cells (Builtin.zeroCells z.cells n ++ Builtin.zeroCells z.cells (G - n)) 35)) := (Below.refl _ _).drew.alloc (by simp) _
    have hG63 : G ≤ 9223372036854775807 := by unfold maxLen at hle; omega
    obtain ⟨w1, hw1⟩ : ∃ x, x = w.drew.alloc (.cells (Builtin.zeroCells z.cells n ++ Builtin.zeroCells z.cells (G - n)) 35) := ⟨_, rfl⟩
    rw [← hw1] at hO hE
    simp only [← hw1] at hrz
    replace hO := hide hO
    replace hE := hide hE
    clear hw1 hG hi hz hsz hby hzs
    go_enter Try.func55, Try.ntmps55
    go_wp2_with (at_builtin; refine Lib.wpList_append_run _ rfl _ _ _ _ rfl _ _ rfl rfl _ _ (hrz _) ?_)
    go_ret
    exact ⟨_, rfl, hO.out, hE.out⟩
set_option maxRecDepth 100000 in
set_option maxHeartbeats 2000000 in
theorem concat_any (A : Option Addr) (n c : Nat) (L : List LArg) (w : World) (h : LRow w A L) (hn : n = L.length) (hl : n ≤ 8) :
    Calls Try.prog 34 #[.slice A n c] w fun e w' => ∃ v, e = .returned v ∧ Own edgeE 35 w.heap.size w' v (flatI L) ∧ Ext w w' := by
  replace h := hide h
  replace hn := hide hn
  have hcells : Hid (∀ k, k < n → ∃ b off s, A = some ⟨b, off, none⟩ ∧ b < w.heap.size ∧ L[k]? = some s ∧ w.cell? ⟨b, off + k, none⟩ = some (.slice s.1.1 s.1.2.1 s.1.2.2)) := hide (by
    intro k hk
    obtain ⟨s, hs⟩ := get_some (xs := L) (i := k) (by rw [← hn.out]; exact hk)
    rcases h.out.1 with h0 | ⟨b, off, hA, hb, hc⟩
    · rw [h0] at hs; cases hs
    · exact ⟨b, off, s, hA, hb, hs, hc k s hs⟩)
  have hfl : Hid (∀ k, (flatI (L.take k)).length ≤ 160000) := hide (by
    intro k
    refine Nat.le_trans (flatI_len _ fun s hs => (h.out.2 s (List.mem_of_mem_take hs)).2.2) ?_
    have := hn.out
    rw [List.length_take]
    omega)
  go_enter Try.func34, Try.ntmps34
  go_wp2
  go_loopw [11, 3] (fun i z wr => ∃ (k b : Nat), k ≤ n ∧ i = .int .i64 k ∧ z = .int .i64 b ∧ Hid (b = (flatI (L.take k)).length) ∧ w = wr) (fun i _ _ => n - (intOf i).toNat)
  case atStart => exact ⟨0, 0, Nat.zero_le _, rfl, rfl, hide rfl, rfl⟩
  case round =>
    obtain ⟨k, b, hk, rfl, rfl, hb, rfl⟩ := hrel
    by_cases hlt : k < n
    · have hlt' : (k : Int) < (n : Int) := by omega
      obtain ⟨bk, off, ⟨⟨A2, n2, c2⟩, vs⟩, rfl, hbk, hs, hpc⟩ := hcells.out k hlt
      have hok := h.out.2 _ (List.mem_of_getElem? hs)
      have hpc' : w.cell? ⟨bk, off + k, none⟩ = some (.slice A2 n2 c2) := hpc
      have hn2 : n2 = vs.length := hok.2.1
      have hf1 := hfl.out (k + 1)
      rw [take_snoc hs, flatI_snoc, List.length_append, ← hb.out, ← hn2] at hf1
      have hb1 : Hid (b + n2 = (flatI (L.take (k + 1))).length) := hide (by rw [take_snoc hs, flatI_snoc, List.length_append, ← hb.out, ← hn2])
      obtain ⟨b2, hb2⟩ : ∃ x, x = b + n2 := ⟨_, rfl⟩
      rw [← hb2] at hb1
      have u1 : IntKind.i64.wrap ((b : Int) + (n2 : Int)) = (b2 : Int) := by rw [IntWalk.i64_in _ (by omega)]; omega
      have h3 : ¬ ((b2 : Int) < 0) := by omega
      clear hpc hok hf1
      replace hn2 := hide hn2
      replace hs := hide hs
      replace hb2 := hide hb2
      go_wp2
      refine ⟨?_, ?_⟩
      · first
          | exact ⟨k + 1, b2, by omega, by go_num, rfl, hb1, trivial⟩
          | ((repeat apply Exists.intro); exact ⟨⟨k + 1, b2, by omega, by go_num, rfl, hb1, trivial⟩, rfl⟩)
      · first | (simp [intOf, lenV]; omega) | (simp [intOf]; omega) | (simp [intOf]; done)
    · have hlt' : ¬ (k : Int) < (n : Int) := by omega
      have hkn : k = n := by omega
      have hbn : b ≤ 1000000 := by have := hfl.out k; rw [← hb.out] at this; omega
      clear hkn hb
      go_wp2_with fail
      refine (grow_any b _ hbn).mono ?_
      rintro e w1 ⟨v, rfl, hO, hE⟩
      replace hO := hide hO
      go_wp2
      go_loopw [27, 6] (fun i z wr => ∃ (j : Nat) (y : Value), j ≤ n ∧ i = .int .i64 j ∧ y = z ∧ Hid (Own edgeE 35 w.heap.size wr y (flatI (L.take j))) ∧ Ext w wr) (fun i _ _ => n - (intOf i).toNat)
      case atStart => exact ⟨0, v, Nat.zero_le _, rfl, rfl, hO, hE⟩
      case round =>
        clear hO hE
        obtain ⟨j, y, hj, rfl, rfl, hO, hE⟩ := hrel
        by_cases hlj : j < n
        · have hlj' : (j : Int) < (n : Int) := by omega
          obtain ⟨bk, off, ⟨⟨A2, n2, c2⟩, vs⟩, rfl, hbk, hs, hpc⟩ := hcells.out j hlj
          have hok := (h.out.2 _ (List.mem_of_getElem? hs)).ext hE
          have hsz := hE.size
          have hbq := Nat.lt_of_lt_of_le hbk hsz
          have hpc' : wr.cell? ⟨bk, off + j, none⟩ = some (.slice A2 n2 c2) := ((bcell hE).1 bk _ hbk).trans hpc
          have hn2 : Hid (n2 = vs.length) := hide hok.2.1
          have hr := hide hok.1
          have hf1 := hfl.out (j + 1)
          rw [take_snoc hs, flatI_snoc, List.length_append] at hf1
          have hb1 : Hid (flatI (L.take (j + 1)) = flatI (L.take j) ++ vs) := hide (by rw [take_snoc hs, flatI_snoc])
          replace hf1 := hide hf1
          clear hpc hok
          replace hs := hide hs
          obtain ⟨Ay, cy, hvy, -, -, -⟩ := hO.out.rd
          replace hvy := hide hvy
          go_wp2_with (at_builtin; refine wpList_app tyEdge rfl (.tmp 31) (.tmp 32) rfl rfl hO.out rfl hr.out hn2.out (by have := hf1.out; omega) hsz ?_)
          intro v' w2 hown' hg hne' hnil
          have hE2 : Ext w w2 := Own.below hO.out hE hg hsz
          rw [← hb1.out] at hown'
          replace hown' := hide hown'
          clear hne' hnil hg hvy hO
          go_wp2
          refine ⟨?_, ?_⟩
          · first
              | exact ⟨j + 1, _, by omega, by go_num, rfl, hown', hE2⟩
              | ((repeat apply Exists.intro); exact ⟨⟨j + 1, _, by omega, by go_num, rfl, hown', hE2⟩, rfl⟩)
          · first | (simp [intOf, lenV]; omega) | (simp [intOf]; omega) | (simp [intOf]; done)
        · have hlj' : ¬ (j : Int) < (n : Int) := by omega
          have hjn : j = n := by omega
          have hO2 : Hid (Own edgeE 35 w.heap.size wr y (flatI L)) := hide (by have h1 := hO.out; rw [hjn, hn.out, List.take_length] at h1; exact h1)
          clear hjn hO
          go_wp2
          go_ret
          exact ⟨_, rfl, hO2.out, hE⟩
end Go.Proofs.Ytoihankkldafoaa
