/- Sets of numbers: Within, Union, With, Without, Has, Of, own. -/
import Derived.Test.YtkiklbngfocljaaDoorBitF
namespace Go.Proofs.YtkiklbngfocljaaDoor
open Go.RowKit

theorem field_bits (w : World) (A : Option Addr) (n c : Nat) : (Instr.field 24 (.agg #[.slice A n c]) 0).run Tryd.prog w = .ok (.slice A n c) w := by kernel_rfl
theorem within_any (A1 A2 : Option Addr) (n1 c1 n2 c2 : Nat) (ws vs : List Nat) (w : World) (h1 : Rd wE w.heap.size w A1 ws) (hn1 : n1 = ws.length) (hl1 : n1 ≤ 1000) (hf1 : Fit ws) (h2 : Rd wE w.heap.size w A2 vs) (hn2 : n2 = vs.length) (hl2 : n2 ≤ 1000) (hf2 : Fit vs) :
    Calls Tryd.prog 35 #[.agg #[.slice A1 n1 c1], .agg #[.slice A2 n2 c2]] w fun e w' => e = .returned (.bool (decide (trimW (joinL minusN (ofW ws) (ofW vs)) = []))) ∧ Ext w w' := by
  replace h1 := hide h1
  replace h2 := hide h2
  replace hn1 := hide hn1
  replace hn2 := hide hn2
  go_enter Tryd.func35, Tryd.ntmps35
  go_upto_region 1 with fail
  obtain ⟨w0, hw0⟩ : ∃ w0, w0 = (w.alloc (.cells #[.slice A1 n1 c1] 24)).alloc (.cells #[.slice A2 n2 c2] 24) := ⟨_, rfl⟩
  rw [← hw0]
  have hE0 : Ext w w0 := by rw [hw0]; exact ((Below.refl _ _).alloc (Nat.le_refl _) _).alloc (by simp) _
  have hc2 : w0.cell? ⟨w.heap.size, 0, none⟩ = some (.slice A1 n1 c1) := by rw [hw0]; exact ((Box.new w _ _).alloc _).cell
  have hc3 : w0.cell? ⟨w.heap.size + 1, 0, none⟩ = some (.slice A2 n2 c2) := by
    rw [hw0]
    have := Box.new (w.alloc (.cells #[.slice A1 n1 c1] 24)) 24 (.slice A2 n2 c2)
    rw [World.size_alloc] at this
    exact this.cell
  have hsz : w0.heap.size = w.heap.size + 1 + 1 := by rw [hw0]; simp
  clear hw0
  obtain ⟨b3, hb3⟩ : ∃ b, b = w.heap.size + 1 := ⟨_, rfl⟩
  rw [← hb3] at hc3 hsz ⊢
  have hb2 : w.heap.size < w0.heap.size := by omega
  have hb3' : b3 < w0.heap.size := by omega
  clear hb3 hsz
  go_wp2_with fail
  refine (minusS_any A1 A2 n1 c1 n2 c2 ws vs _ (h1.out.ext hE0) hn1.out hl1 hf1 (h2.out.ext hE0) hn2.out hl2 hf2).mono ?_
  rintro e w1 ⟨v, rfl, hO, hE1⟩
  have hB := hE0.trans (hE1.mono hE0.size)
  obtain ⟨A7, c7, rfl, -, -, -⟩ := hO.rd
  obtain ⟨q, hq⟩ : ∃ q, q = (trimW (joinL minusN (ofW ws) (ofW vs))).length := ⟨_, rfl⟩
  rw [← hq]
  have hd : decide (trimW (joinL minusN (ofW ws) (ofW vs)) = []) = ((q : Int) == 0) := by
    rw [Bool.eq_iff_iff, decide_eq_true_iff, beq_iff_eq, hq, ← List.length_eq_zero_iff]
    omega
  replace hd := hide hd
  clear hO
  replace hq := hide hq
  have hfd := field_bits
  go_wp2
  go_ret
  exact ⟨by rw [hd.out]; rfl, hB⟩
theorem has_any (A : Option Addr) (n c : Nat) (ws : List Nat) (i : Int) (w : World) (h : Rd wE w.heap.size w A ws) (hn : n = ws.length) (hl : n ≤ 1000) (hf : Fit ws) :
    Calls Tryd.prog 18 #[.agg #[.slice A n c], .int .i64 i] w fun e w' => e = .returned (.bool (mayB i && has (ofW ws) i.toNat)) ∧ Ext w w' := by
  replace h := hide h
  replace hn := hide hn
  go_enter Tryd.func18, Tryd.ntmps18
  go_upto_region 1 with fail
  obtain ⟨w0, hw0⟩ : ∃ w0, w0 = w.alloc (.cells #[.slice A n c] 24) := ⟨_, rfl⟩
  rw [← hw0]
  have hE0 : Ext w w0 := by rw [hw0]; exact (Below.refl _ _).alloc (Nat.le_refl _) _
  have hb0 : w.heap.size < w0.heap.size := by rw [hw0]; simp
  have hc0 : w0.cell? ⟨w.heap.size, 0, none⟩ = some (.slice A n c) := by rw [hw0]; simp [World.cell?_alloc_new]
  clear hw0
  go_wp2_with fail
  refine (of_any A n c ws _ (h.out.ext hE0) hn.out (by omega) hf).mono ?_
  rintro e w1 ⟨A1, c1, rfl, -, hr1, hE1⟩
  have hB := hE0.trans (hE1.mono hE0.size)
  have hl1 : (ofW ws).length ≤ 1000 := Nat.le_trans (ofW_le ws) (by rw [← hn.out]; exact hl)
  have hf1 := ofW_fit hf
  obtain ⟨vs, hvs⟩ : ∃ vs, vs = ofW ws := ⟨_, rfl⟩
  rw [← hvs] at hr1 hl1 hf1 ⊢
  replace hvs := hide hvs
  obtain ⟨n1, hn1⟩ : ∃ n1, n1 = vs.length := ⟨_, rfl⟩
  rw [← hn1] at hl1 ⊢
  replace hn1 := hide hn1
  clear hc0 hb0 hE1 hE0 h hn hf
  go_wp2_with fail
  refine (may_any i _).mono ?_
  rintro e w2 ⟨rfl, rfl⟩
  cases hm : mayB i with
  | false =>
    replace hr1 := hide hr1
    replace hm := hide hm
    go_wp2
    go_ret
    exact ⟨by rw [hm.out]; rfl, hB⟩
  | true =>
    obtain ⟨h0, h1⟩ := mayB_of hm
    obtain ⟨k, rfl⟩ : ∃ k : Nat, i = k := ⟨i.toNat, by omega⟩
    have hk : k < 10000 := by omega
    have htn : ((k : Int)).toNat = k := rfl
    replace htn := hide htn
    obtain ⟨q, hq⟩ : ∃ q, q = k / 64 := ⟨_, rfl⟩
    obtain ⟨r, hr⟩ : ∃ r, r = k % 64 := ⟨_, rfl⟩
    have u1 : Int.tdiv (k : Int) 64 = (q : Int) := by rw [hq]; simp
    have u4 : Int.tmod (k : Int) 64 = (r : Int) := by rw [hr, Int.tmod_eq_emod_of_nonneg (by omega)]; omega
    have u2 : (k : Int) / 64 = (q : Int) := by omega
    have u3 : (k : Int) % 64 = (r : Int) := by omega
    have hr64 : r < 64 := by omega
    have u5 : IntKind.i64.wrap (q : Int) = (q : Int) := IntWalk.i64_in _ (by omega)
    have u6 : IntKind.i64.wrap (r : Int) = (r : Int) := IntWalk.i64_in _ (by omega)
    replace hm := hide hm
    clear h0 h1
    by_cases hlt : q < n1
    · obtain ⟨b, off, rfl, ra⟩ := hr1.at_ (i := q) (by rw [← hn1.out]; exact hlt)
      obtain ⟨x, hx⟩ := get_some (xs := vs) (i := q) (by rw [← hn1.out]; exact hlt)
      have hxc := ra.word hx
      have hb := ra.1
      have hx64 := hf1 x (List.mem_of_getElem? hx)
      have hlt' : (q : Int) < (n1 : Int) := by omega
      have hh : has vs k = x.testBit r := by unfold has wat; rw [← hq, ← hr, hx]; rfl
      obtain ⟨t, ht⟩ : ∃ t, t = x / 2 ^ r % 2 := ⟨_, rfl⟩
      have hd : x / 2 ^ r < 18446744073709551616 := Nat.lt_of_le_of_lt (Nat.div_le_self _ _) hx64
      have u7 : bits .and .u64 ((x : Int) / 2 ^ r) 1 = (t : Int) := by
        have e : ((x : Int) / 2 ^ r) = ((x / 2 ^ r : Nat) : Int) := by simp
        rw [e, show (1 : Int) = ((1 : Nat) : Int) from rfl, bits_and_u64_nat _ _ hd (by decide), Nat.and_one_is_mod, ht]
      have hfin : Hid (has (ofW ws) ((k : Int)).toNat = ((t : Int) == 1)) := hide (by
        rw [htn.out, ← hvs.out, hh, Nat.testBit_eq_decide_div_mod_eq, ← ht, Bool.eq_iff_iff, decide_eq_true_iff, beq_iff_eq]
        omega)
      replace hx := hide hx
      replace ra := hide ra
      replace hq := hide hq
      replace hr := hide hr
      replace ht := hide ht
      clear hr1 hd hh
      go_wp2
      go_ret
      exact ⟨by rw [hm.out, hfin.out]; rfl, hB⟩
    · have hlt' : ¬ (q : Int) < (n1 : Int) := by omega
      have hfin : Hid (has (ofW ws) ((k : Int)).toNat = false) := hide (by rw [htn.out, ← hvs.out]; exact has_out (by rw [← hn1.out, ← hq]; omega))
      replace hq := hide hq
      replace hr := hide hr
      replace hr1 := hide hr1
      go_wp2
      go_ret
      exact ⟨by rw [hm.out, hfin.out]; rfl, hB⟩
set_option maxRecDepth 100000 in
set_option maxHeartbeats 2000000 in
theorem own_any (A : Option Addr) (n c : Nat) (ws : List Nat) (w : World) (h : Rd wE w.heap.size w A ws) (hn : n = ws.length) (hnc : n ≤ c) :
    Calls Tryd.prog 10 #[.agg #[.slice A n c]] w fun e w' => ∃ v, e = .returned (.agg #[v]) ∧ Own wE 43 w.heap.size w' v (ws.take 160) ∧ Ext w w' := by
  replace h := hide h
  replace hn := hide hn
  go_enter Tryd.func10, Tryd.ntmps10
  go_upto_region 1 with fail
  obtain ⟨w0, hw0⟩ : ∃ w0, w0 = (w.alloc (.cells #[.slice A n c] 24)).alloc (.cells #[.slice none 0 0] 24) := ⟨_, rfl⟩
  rw [← hw0]
  have hE0 : Ext w w0 := by rw [hw0]; exact ((Below.refl _ _).alloc (Nat.le_refl _) _).alloc (by simp) _
  have hc1 : w0.cell? ⟨w.heap.size, 0, none⟩ = some (.slice A n c) := by rw [hw0]; exact ((Box.new w _ _).alloc _).cell
  have hx2 : Box w0 (w.heap.size + 1) 24 (.slice none 0 0) := by
    rw [hw0]
    have := Box.new (w.alloc (.cells #[.slice A n c] 24)) 24 (.slice none 0 0)
    rw [World.size_alloc] at this
    exact this
  have hsz : w0.heap.size = w.heap.size + 1 + 1 := by rw [hw0]; simp
  clear hw0
  obtain ⟨b2, hb2⟩ : ∃ b, b = w.heap.size + 1 := ⟨_, rfl⟩
  rw [← hb2] at hx2 hsz ⊢
  have hb1 : w.heap.size < w0.heap.size := by omega
  have hb2' : w.heap.size ≤ b2 := by omega
  clear hb2 hsz
  replace hx2 := hide hx2
  obtain ⟨q, hq⟩ : ∃ q, q = min n 160 := ⟨_, rfl⟩
  have z1 : min (n : Int) 160 = q := by omega
  have z2 : q ≤ n := by omega
  have z3 : (q : Int) ≤ c := by omega
  have z4 : q ≤ c := by omega
  have z5 : q ≤ 160 := by omega
  have ht : ws.take 160 = ws.take q := by
    rw [hq]
    by_cases h40 : n ≤ 160
    · rw [Nat.min_eq_left h40, hn.out, List.take_length, List.take_of_length_le (by rw [← hn.out]; exact h40)]
    · rw [Nat.min_eq_right (by omega)]
  have hlq : q = (ws.take q).length := by rw [List.length_take, ← hn.out]; omega
  replace ht := hide ht
  replace hq := hide hq
  replace hlq := hide hlq
  have hr := hide ((h.out.ext hE0).take q)
  cases A with
  | none =>
    have hws : ws = [] := by
      rcases h.out with h | ⟨_, _, h, _⟩
      · exact h
      · cases h
    have hn0 : n = 0 := by rw [hn.out, hws]; rfl
    subst hn0
    have hq0 : q = 0 := by omega
    subst hq0
    go_wp2_with fail
    refine (cloneW_any none 0 _ _ _ hr.out hlq.out (by omega)).mono ?_
    rintro e w1 ⟨v, rfl, hO, hE1⟩
    obtain ⟨A7, c7, rfl, -, -, -⟩ := hO.rd
    rw [← hlq.out] at hO ⊢
    have hx3 := hx2.out.ext hE1
    have hB := hE0.trans (hE1.mono hE0.size)
    have hcb := hx3.cell
    have hfb := hx3.free
    have hsb := hx3.lt
    have hO5 := hide ((hO.base_le hE0.size).set hx3 (by decide) (.slice A7 0 c7))
    have hx4 := hide (hx3.set (.slice A7 0 c7))
    clear hO
    go_wp2
    refine bodyPost_ret (results_cell_row rfl _ _ b2 24 _ _ _ rfl hx4.out Tryd.underlying24 rfl (by kernel_rfl)) rfl ?_
    exact ⟨_, rfl, by rw [ht.out]; exact hO5.out, hB.setCell (p := ⟨b2, 0, none⟩) hb2' _⟩
  | some a =>
    go_wp2_with fail
    refine (cloneW_any (some a) q _ _ _ hr.out hlq.out (by omega)).mono ?_
    rintro e w1 ⟨v, rfl, hO, hE1⟩
    obtain ⟨A7, c7, rfl, -, -, -⟩ := hO.rd
    rw [← hlq.out] at hO ⊢
    have hx3 := hx2.out.ext hE1
    have hB := hE0.trans (hE1.mono hE0.size)
    have hcb := hx3.cell
    have hfb := hx3.free
    have hsb := hx3.lt
    have hO5 := hide ((hO.base_le hE0.size).set hx3 (by decide) (.slice A7 q c7))
    have hx4 := hide (hx3.set (.slice A7 q c7))
    clear hO
    go_wp2
    refine bodyPost_ret (results_cell_row rfl _ _ b2 24 _ _ _ rfl hx4.out Tryd.underlying24 rfl (by kernel_rfl)) rfl ?_
    exact ⟨_, rfl, by rw [ht.out]; exact hO5.out, hB.setCell (p := ⟨b2, 0, none⟩) hb2' _⟩
def withE (i : Int) : Int := if mayB i = true then 0 else 2
def withS (ws : List Nat) (i : Int) : List Nat := if mayB i = true then trimW (turnW (fun x y => x ||| y) (ofW ws) i.toNat) else []
def withoutS (ws : List Nat) (i : Int) : List Nat := if mayB i = true then trimW (turnW minusN (ofW ws) i.toNat) else trimW (ofW ws)
theorem turnW_length (J : Nat → Nat → Nat) (ws : List Nat) (k : Nat) : (turnW J ws k).length = max ws.length (k / 64 + 1) := by
  unfold turnW padW
  rw [List.length_set, List.length_append, List.length_replicate]
  omega
set_option maxRecDepth 100000 in
set_option maxHeartbeats 2000000 in
theorem with_any (A : Option Addr) (n c : Nat) (ws : List Nat) (i : Int) (w : World) (h : Rd wE w.heap.size w A ws) (hn : n = ws.length) (hl : n ≤ 1000) (hf : Fit ws) :
    Calls Tryd.prog 13 #[.agg #[.slice A n c], .int .i64 i] w fun e w' => ∃ v, e = .returned (.tuple #[.agg #[v], .int .i64 (withE i)]) ∧ Own wE 43 w.heap.size w' v (withS ws i) ∧ Ext w w' := by
  replace h := hide h
  replace hn := hide hn
  go_enter Tryd.func13, Tryd.ntmps13
  go_upto_region 1 with fail
  obtain ⟨w0, hw0⟩ : ∃ w0, w0 = (w.alloc (.cells #[.slice A n c] 24)).alloc (.cells #[.slice none 0 0] 24) := ⟨_, rfl⟩
  rw [← hw0]
  have hE0 : Ext w w0 := by rw [hw0]; exact ((Below.refl _ _).alloc (Nat.le_refl _) _).alloc (by simp) _
  have hc1 : w0.cell? ⟨w.heap.size, 0, none⟩ = some (.slice A n c) := by rw [hw0]; exact ((Box.new w _ _).alloc _).cell
  have hx2 : Box w0 (w.heap.size + 1) 24 (.slice none 0 0) := by
    rw [hw0]
    have := Box.new (w.alloc (.cells #[.slice A n c] 24)) 24 (.slice none 0 0)
    rw [World.size_alloc] at this
    exact this
  have hsz : w0.heap.size = w.heap.size + 1 + 1 := by rw [hw0]; simp
  clear hw0
  obtain ⟨b2, hb2⟩ : ∃ b, b = w.heap.size + 1 := ⟨_, rfl⟩
  rw [← hb2] at hx2 hsz ⊢
  have hb1 : w.heap.size < w0.heap.size := by omega
  have hb2' : w.heap.size ≤ b2 := by omega
  clear hb2 hsz
  go_wp2_with fail
  refine (may_any i _).mono ?_
  rintro e w1 ⟨rfl, hw1⟩
  subst hw1
  cases hm : mayB i with
  | false =>
    have hE : Hid (withE i = 2) := hide (by unfold withE; rw [hm]; rfl)
    have hS : Hid (withS ws i = []) := hide (by unfold withS; rw [hm]; rfl)
    have hcb := hx2.cell
    have hfb := hx2.free
    have hsb := hx2.lt
    have hx6 := hide (hx2.set (.slice none 0 0))
    replace hm := hide hm
    go_wp2
    refine bodyPost_ret (results_cell_tmp_row rfl _ _ b2 24 _ _ _ rfl hx6.out Tryd.underlying24 rfl (by kernel_rfl)) rfl ?_
    exact ⟨_, by rw [hE.out]; rfl, by rw [hS.out]; exact Own.nil_, hE0.setCell (p := ⟨b2, 0, none⟩) hb2' _⟩
  | true =>
    have hE : Hid (withE i = 0) := hide (by unfold withE; rw [hm]; rfl)
    obtain ⟨h0, h1⟩ := mayB_of hm
    obtain ⟨k, rfl⟩ : ∃ k : Nat, i = k := ⟨i.toNat, by omega⟩
    have hk : k < 10000 := by omega
    have hS : Hid (withS ws k = trimW (turnW (fun x y => x ||| y) (ofW ws) k)) := hide (by unfold withS; rw [hm]; rfl)
    replace hm := hide hm
    clear h0 h1
    go_wp2_with fail
    refine (of_full A n c ws _ (h.out.ext hE0) hn.out (by omega) hf).mono ?_
    rintro e w2 ⟨A1, c1, rfl, -, hr1, hE1, hcl⟩
    have hB := hE0.trans (hE1.mono hE0.size)
    have hx3 := hx2.ext hE1
    have hl1 : (ofW ws).length ≤ 1000 := Nat.le_trans (ofW_le ws) (by rw [← hn.out]; exact hl)
    have hf1 := ofW_fit hf
    obtain ⟨n1, hn1⟩ : ∃ n1, n1 = (ofW ws).length := ⟨_, rfl⟩
    rw [← hn1] at hl1 hcl ⊢
    replace hn1 := hide hn1
    replace hr1 := hide hr1
    clear hc1 hb1 hx2
    go_wp2_with fail
    refine (turned_any 45 (fun x y => x ||| y) orJ enter_or A1 n1 c1 (ofW ws) k _ hr1.out hn1.out hl1 hk hf1).mono ?_
    rintro e w3 ⟨v, rfl, hO3, hE3⟩
    obtain ⟨A3, c3, rfl, hr3, hc3l, -⟩ := hO3.rd
    have hB3 := hB.trans (hE3.mono hB.size)
    have hx4 := hx3.ext hE3
    obtain ⟨n3, hn3⟩ : ∃ n3, n3 = (turnW (fun x y => x ||| y) (ofW ws) k).length := ⟨_, rfl⟩
    have hl3 : n3 ≤ 1000000 := by rw [hn3, turnW_length, ← hn1.out]; omega
    rw [← hn3] at hc3l ⊢
    replace hn3 := hide hn3
    replace hr3 := hide hr3
    clear hO3
    go_wp2_with fail
    refine (made_any A3 n3 c3 (turnW (fun x y => x ||| y) (ofW ws) k) _ hr3.out hn3.out hl3 hc3l).mono ?_
    rintro e w4 ⟨v4, rfl, hO4, hE4⟩
    have hx5 := hx4.ext hE4
    have hB4 := hB3.trans (hE4.mono hB3.size)
    have hcb := hx5.cell
    have hfb := hx5.free
    have hsb := hx5.lt
    have hO5 := hide ((hO4.base_le hB3.size).set hx5 (by decide) v4)
    have hx6 := hide (hx5.set v4)
    obtain ⟨A7, c7, rfl, -, -, -⟩ := hO4.rd
    clear hO4
    go_wp2
    refine bodyPost_ret (results_cell_tmp_row rfl _ _ b2 24 _ _ _ rfl hx6.out Tryd.underlying24 rfl (by kernel_rfl)) rfl ?_
    exact ⟨_, by rw [hE.out]; rfl, by rw [hS.out]; exact hO5.out, hB4.setCell (p := ⟨b2, 0, none⟩) hb2' _⟩
set_option maxRecDepth 100000 in
set_option maxHeartbeats 2000000 in
theorem without_any (A : Option Addr) (n c : Nat) (ws : List Nat) (i : Int) (w : World) (h : Rd wE w.heap.size w A ws) (hn : n = ws.length) (hl : n ≤ 1000) (hf : Fit ws) (hnc : n ≤ c) :
    Calls Tryd.prog 17 #[.agg #[.slice A n c], .int .i64 i] w fun e w' => ∃ v, e = .returned (.agg #[v]) ∧ Own wE 43 w.heap.size w' v (withoutS ws i) ∧ Ext w w' := by
  replace h := hide h
  replace hn := hide hn
  go_enter Tryd.func17, Tryd.ntmps17
  go_upto_region 1 with fail
  obtain ⟨w0, hw0⟩ : ∃ w0, w0 = (w.alloc (.cells #[.slice A n c] 24)).alloc (.cells #[.slice none 0 0] 24) := ⟨_, rfl⟩
  rw [← hw0]
  have hE0 : Ext w w0 := by rw [hw0]; exact ((Below.refl _ _).alloc (Nat.le_refl _) _).alloc (by simp) _
  have hc1 : w0.cell? ⟨w.heap.size, 0, none⟩ = some (.slice A n c) := by rw [hw0]; exact ((Box.new w _ _).alloc _).cell
  have hx2 : Box w0 (w.heap.size + 1) 24 (.slice none 0 0) := by
    rw [hw0]
    have := Box.new (w.alloc (.cells #[.slice A n c] 24)) 24 (.slice none 0 0)
    rw [World.size_alloc] at this
    exact this
  have hsz : w0.heap.size = w.heap.size + 1 + 1 := by rw [hw0]; simp
  clear hw0
  obtain ⟨b2, hb2⟩ : ∃ b, b = w.heap.size + 1 := ⟨_, rfl⟩
  rw [← hb2] at hx2 hsz ⊢
  have hb1 : w.heap.size < w0.heap.size := by omega
  have hb2' : w.heap.size ≤ b2 := by omega
  clear hb2 hsz
  go_wp2_with fail
  refine (may_any i _).mono ?_
  rintro e w1 ⟨rfl, hw1⟩
  subst hw1
  cases hm : mayB i with
  | false =>
    have hS : Hid (withoutS ws i = trimW (ofW ws)) := hide (by unfold withoutS; rw [hm]; rfl)
    replace hm := hide hm
    go_wp2_with fail
    refine (of_full A n c ws _ (h.out.ext hE0) hn.out (by omega) hf).mono ?_
    rintro e w2 ⟨A1, c1, rfl, -, hr1, hE1, hcl⟩
    have hB := hE0.trans (hE1.mono hE0.size)
    have hx3 := hx2.ext hE1
    have hl1 : (ofW ws).length ≤ 1000 := Nat.le_trans (ofW_le ws) (by rw [← hn.out]; exact hl)
    have hf1 := ofW_fit hf
    obtain ⟨n1, hn1⟩ : ∃ n1, n1 = (ofW ws).length := ⟨_, rfl⟩
    rw [← hn1] at hl1 hcl ⊢
    replace hn1 := hide hn1
    replace hr1 := hide hr1
    clear hc1 hb1 hx2
    have hc1l := hcl hnc
    go_wp2_with fail
    refine (made_any A1 n1 c1 (ofW ws) _ hr1.out hn1.out (by omega) hc1l).mono ?_
    rintro e w4 ⟨v4, rfl, hO4, hE4⟩
    have hx5 := hx3.ext hE4
    have hB4 := hB.trans (hE4.mono hB.size)
    have hcb := hx5.cell
    have hfb := hx5.free
    have hsb := hx5.lt
    have hO5 := hide ((hO4.base_le hB.size).set hx5 (by decide) v4)
    have hx6 := hide (hx5.set v4)
    obtain ⟨A7, c7, rfl, -, -, -⟩ := hO4.rd
    clear hO4
    go_wp2
    refine bodyPost_ret (results_cell_row rfl _ _ b2 24 _ _ _ rfl hx6.out Tryd.underlying24 rfl (by kernel_rfl)) rfl ?_
    exact ⟨_, rfl, by rw [hS.out]; exact hO5.out, hB4.setCell (p := ⟨b2, 0, none⟩) hb2' _⟩
  | true =>
    obtain ⟨h0, h1⟩ := mayB_of hm
    obtain ⟨k, rfl⟩ : ∃ k : Nat, i = k := ⟨i.toNat, by omega⟩
    have hk : k < 10000 := by omega
    have hS : Hid (withoutS ws k = trimW (turnW minusN (ofW ws) k)) := hide (by unfold withoutS; rw [hm]; rfl)
    replace hm := hide hm
    clear h0 h1
    go_wp2_with fail
    refine (of_full A n c ws _ (h.out.ext hE0) hn.out (by omega) hf).mono ?_
    rintro e w2 ⟨A1, c1, rfl, -, hr1, hE1, hcl⟩
    have hB := hE0.trans (hE1.mono hE0.size)
    have hx3 := hx2.ext hE1
    have hl1 : (ofW ws).length ≤ 1000 := Nat.le_trans (ofW_le ws) (by rw [← hn.out]; exact hl)
    have hf1 := ofW_fit hf
    obtain ⟨n1, hn1⟩ : ∃ n1, n1 = (ofW ws).length := ⟨_, rfl⟩
    rw [← hn1] at hl1 hcl ⊢
    replace hn1 := hide hn1
    replace hr1 := hide hr1
    clear hc1 hb1 hx2
    go_wp2_with fail
    refine (turned_any 46 minusN minusJ enter_minus A1 n1 c1 (ofW ws) k _ hr1.out hn1.out hl1 hk hf1).mono ?_
    rintro e w3 ⟨v, rfl, hO3, hE3⟩
    obtain ⟨A3, c3, rfl, hr3, hc3l, -⟩ := hO3.rd
    have hB3 := hB.trans (hE3.mono hB.size)
    have hx4 := hx3.ext hE3
    obtain ⟨n3, hn3⟩ : ∃ n3, n3 = (turnW minusN (ofW ws) k).length := ⟨_, rfl⟩
    have hl3 : n3 ≤ 1000000 := by rw [hn3, turnW_length, ← hn1.out]; omega
    rw [← hn3] at hc3l ⊢
    replace hn3 := hide hn3
    replace hr3 := hide hr3
    clear hO3
    go_wp2_with fail
    refine (made_any A3 n3 c3 (turnW minusN (ofW ws) k) _ hr3.out hn3.out hl3 hc3l).mono ?_
    rintro e w4 ⟨v4, rfl, hO4, hE4⟩
    have hx5 := hx4.ext hE4
    have hB4 := hB3.trans (hE4.mono hB3.size)
    have hcb := hx5.cell
    have hfb := hx5.free
    have hsb := hx5.lt
    have hO5 := hide ((hO4.base_le hB3.size).set hx5 (by decide) v4)
    have hx6 := hide (hx5.set v4)
    obtain ⟨A7, c7, rfl, -, -, -⟩ := hO4.rd
    clear hO4
    go_wp2
    refine bodyPost_ret (results_cell_row rfl _ _ b2 24 _ _ _ rfl hx6.out Tryd.underlying24 rfl (by kernel_rfl)) rfl ?_
    exact ⟨_, rfl, by rw [hS.out]; exact hO5.out, hB4.setCell (p := ⟨b2, 0, none⟩) hb2' _⟩
end Go.Proofs.YtkiklbngfocljaaDoor
