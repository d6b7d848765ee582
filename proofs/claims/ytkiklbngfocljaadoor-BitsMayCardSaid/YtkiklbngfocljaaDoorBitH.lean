/- Sets of numbers: Count, Of, Union. -/
import Derived.Test.YtkiklbngfocljaaDoorBitG
import Derived.Test.YtkiklbngfocljaaDoorBitO
import Derived.Test.YtkiklbngfocljaaDoorMixE
namespace Go.Proofs.YtkiklbngfocljaaDoor
open Go.RowKit

theorem ones_any (x : Nat) (hx : x < 18446744073709551616) (w : World) :
    Calls Tryd.prog 49 #[.int .u64 x] w fun e w' => e = .returned (.int .i64 ((bitsOf x).length : Int)) ∧ w' = w := by
  obtain ⟨a1, ha1⟩ : ∃ a, a = (x / 2) &&& 6148914691236517205 := ⟨_, rfl⟩
  obtain ⟨b1, hb1⟩ : ∃ a, a = x &&& 6148914691236517205 := ⟨_, rfl⟩
  obtain ⟨y1, hy1⟩ : ∃ a, a = a1 + b1 := ⟨_, rfl⟩
  have la1 : a1 ≤ 6148914691236517205 := by rw [ha1]; exact Nat.and_le_right
  have lb1 : b1 ≤ 6148914691236517205 := by rw [hb1]; exact Nat.and_le_right
  obtain ⟨a2, ha2⟩ : ∃ a, a = (y1 / 4) &&& 3689348814741910323 := ⟨_, rfl⟩
  obtain ⟨b2, hb2⟩ : ∃ a, a = y1 &&& 3689348814741910323 := ⟨_, rfl⟩
  obtain ⟨y2, hy2⟩ : ∃ a, a = a2 + b2 := ⟨_, rfl⟩
  have la2 : a2 ≤ 3689348814741910323 := by rw [ha2]; exact Nat.and_le_right
  have lb2 : b2 ≤ 3689348814741910323 := by rw [hb2]; exact Nat.and_le_right
  obtain ⟨y3, hy3⟩ : ∃ a, a = (y2 / 16 + y2) &&& 1085102592571150095 := ⟨_, rfl⟩
  have ly3 : y3 ≤ 1085102592571150095 := by rw [hy3]; exact Nat.and_le_right
  obtain ⟨hpc, hfl⟩ := popc x hx y1 y2 y3 (by rw [hy1, ha1, hb1]) (by rw [hy2, ha2, hb2]) hy3
  obtain ⟨z, hz⟩ : ∃ a, a = y3 + y3 / 256 := ⟨_, rfl⟩
  obtain ⟨zz, hzz⟩ : ∃ a, a = z + z / 65536 := ⟨_, rfl⟩
  obtain ⟨u, hu⟩ : ∃ a, a = zz + zz / 4294967296 := ⟨_, rfl⟩
  obtain ⟨k1, k2, k3, k4⟩ := bytes_sum y3 (by omega) hfl z zz u hz hzz hu
  rw [hpc] at k1
  have w1 : bits .and .u64 ((x : Int) / 2) 6148914691236517205 = (a1 : Int) := by
    rw [show (x : Int) / 2 = ((x / 2 : Nat) : Int) by omega, ha1]
    exact bits_and_u64_nat _ 6148914691236517205 (by omega) (by decide)
  have w2 : bits .and .u64 (x : Int) 6148914691236517205 = (b1 : Int) := by rw [hb1]; exact bits_and_u64_nat _ 6148914691236517205 hx (by decide)
  have w3 : IntKind.u64.wrap ((a1 : Int) + (b1 : Int)) = (y1 : Int) := by rw [IntKind.wrap_u64]; omega
  have w4 : bits .and .u64 ((y1 : Int) / 4) 3689348814741910323 = (a2 : Int) := by
    rw [show (y1 : Int) / 4 = ((y1 / 4 : Nat) : Int) by omega, ha2]
    exact bits_and_u64_nat _ 3689348814741910323 (by omega) (by decide)
  have w5 : bits .and .u64 (y1 : Int) 3689348814741910323 = (b2 : Int) := by rw [hb2]; exact bits_and_u64_nat _ 3689348814741910323 (by omega) (by decide)
  have w6 : IntKind.u64.wrap ((a2 : Int) + (b2 : Int)) = (y2 : Int) := by rw [IntKind.wrap_u64]; omega
  obtain ⟨s, hs⟩ : ∃ a, a = y2 / 16 + y2 := ⟨_, rfl⟩
  have w7 : IntKind.u64.wrap ((y2 : Int) / 16 + (y2 : Int)) = (s : Int) := by rw [IntKind.wrap_u64]; omega
  have w8 : bits .and .u64 (s : Int) 1085102592571150095 = (y3 : Int) := by rw [hy3, ← hs]; exact bits_and_u64_nat _ 1085102592571150095 (by omega) (by decide)
  have w9 : IntKind.u64.wrap ((y3 : Int) + (y3 : Int) / 256) = (z : Int) := by rw [IntKind.wrap_u64]; omega
  have w10 : IntKind.u64.wrap ((z : Int) + (z : Int) / 65536) = (zz : Int) := by rw [IntKind.wrap_u64]; omega
  have w11 : IntKind.u64.wrap ((zz : Int) + (zz : Int) / 4294967296) = (u : Int) := by rw [IntKind.wrap_u64]; omega
  have w12 : IntKind.i64.wrap (u : Int) = (u : Int) := IntWalk.i64_in _ (by omega)
  have w13 : bits .and .i64 (u : Int) 127 = ((bitsOf x).length : Int) := by
    have h1 := (bits_nat .i64 63 (by decide) (fun n h0 h1 => IntWalk.i64_in _ (by omega)) u 127 (by omega) (by decide)).1
    rw [show (127 : Int) = ((127 : Nat) : Int) from rfl, h1, show (127 : Nat) = 2 ^ 7 - 1 from rfl, Nat.and_two_pow_sub_one_eq_mod]
    rw [show (2 : Nat) ^ 7 = 128 from rfl, k1]
  clear ha1 hb1 hy1 ha2 hb2 hy2 hy3 hpc hfl hz hzz hu k1 hs
  generalize (bitsOf x).length = r at *
  go_enter Tryd.func49, Tryd.ntmps49
  go_wp2
  go_ret
  exact ⟨rfl, rfl⟩
set_option maxHeartbeats 1000000 in
theorem count_any (A : Option Addr) (n c : Nat) (ws : List Nat) (w : World) (h : Rd wE w.heap.size w A ws) (hn : n = ws.length) (hl : n ≤ 1000) (hf : Fit ws) :
    Calls Tryd.prog 27 #[.agg #[.slice A n c]] w fun e w' => e = .returned (.int .i64 ((nums (ofW ws)).length : Int)) ∧ Ext w w' := by
  replace h := hide h
  replace hn := hide hn
  go_enter Tryd.func27, Tryd.ntmps27
  go_upto_region 1 with fail
  obtain ⟨w0, hw0⟩ : ∃ w0, w0 = w.alloc (.cells #[.slice A n c] 24) := ⟨_, rfl⟩
  rw [← hw0]
  have hE0 : Ext w w0 := by rw [hw0]; exact (Below.refl _ _).alloc (Nat.le_refl _) _
  have hb0 : w.heap.size < w0.heap.size := by rw [hw0]; simp
  have hc0 : w0.cell? ⟨w.heap.size, 0, none⟩ = some (.slice A n c) := by rw [hw0]; simp [World.cell?_alloc_new]
  clear hw0
  go_wp2_with fail
  refine (of_any A n c ws _ (h.out.ext hE0) hn.out (by omega) hf).mono ?_
  rintro e w1 ⟨A1, c1, rfl, -, hr1, hE1⟩
  have hB := hE0.trans (hE1.mono hE0.size)
  have hl1 : (ofW ws).length ≤ 1000 := Nat.le_trans (ofW_le ws) (by rw [← hn.out]; exact hl)
  have hf1 := ofW_fit hf
  obtain ⟨vs, hvs⟩ : ∃ vs, vs = ofW ws := ⟨_, rfl⟩
  rw [← hvs] at hr1 hl1 hf1 ⊢
  replace hvs := hide hvs
  obtain ⟨n1, hn1⟩ : ∃ n1, n1 = vs.length := ⟨_, rfl⟩
  rw [← hn1] at hl1 ⊢
  replace hn1 := hide hn1
  replace hr1 := hide hr1
  clear hc0 hb0 hE1 hE0 h hn hf
  go_wp2
  go_loopw [3, 9] (fun s i wr => ∃ k m : Nat, k ≤ n1 ∧ i = .int .i64 k ∧ s = .int .i64 m ∧ Hid (m = (nums (vs.take k)).length) ∧ m ≤ 64 * k ∧ wr = w1) (fun _ i _ => n1 - (intOf i).toNat)
  case atStart => exact ⟨0, 0, Nat.zero_le _, rfl, rfl, hide rfl, Nat.le_refl _, rfl⟩
  case round =>
    obtain ⟨k, m, hk, rfl, rfl, hm, hmk, hwr⟩ := hrel
    subst hwr
    by_cases hlt : k < n1
    · have hlt' : (k : Int) < (n1 : Int) := by omega
      obtain ⟨b, off, rfl, ra⟩ := hr1.out.at_ (i := k) (by rw [← hn1.out]; exact hlt)
      obtain ⟨x, hx⟩ := get_some (xs := vs) (i := k) (by rw [← hn1.out]; exact hlt)
      have hxc := ra.word hx
      have hb := ra.1
      have hx64 := hf1 x (List.mem_of_getElem? hx)
      have hr64 : (bitsOf x).length ≤ 64 := by unfold bitsOf; exact Nat.le_trans (List.length_filter_le _ _) (by simp)
      have hm2 : Hid (m + (bitsOf x).length = (nums (vs.take (k + 1))).length) := hide (by rw [nums_snoc hx, List.length_append, List.length_map, ← hm.out])
      replace hx := hide hx
      replace ra := hide ra
      go_wp2_with fail
      refine (ones_any x hx64 _).mono ?_
      rintro e w2 ⟨rfl, hw2⟩
      subst hw2
      obtain ⟨r, hr⟩ : ∃ r, r = (bitsOf x).length := ⟨_, rfl⟩
      rw [← hr] at hr64 hm2 ⊢
      replace hr := hide hr
      have u1 : IntKind.i64.wrap ((m : Int) + (r : Int)) = ((m + r : Nat) : Int) := by rw [IntWalk.i64_in _ (by omega)]; omega
      generalize hmr : m + r = mr at *
      have hmr2 : mr ≤ 64 * (k + 1) := by omega
      replace hmr := hide hmr
      go_wp2
      refine ⟨?_, ?_⟩
      · first
          | exact ⟨k + 1, mr, by omega, by go_num, rfl, hm2, hmr2, trivial⟩
          | ((repeat apply Exists.intro); exact ⟨⟨k + 1, mr, by omega, by go_num, rfl, hm2, hmr2, trivial⟩, rfl⟩)
      · first | (simp [intOf, lenV]; omega) | (simp [intOf]; omega) | (simp [intOf]; done)
    · obtain rfl : k = n1 := by omega
      have hfin : Hid ((nums (ofW ws)).length = m) := hide (by rw [← hvs.out, hm.out, hn1.out, List.take_length])
      go_wp2
      go_ret
      exact ⟨by rw [hfin.out]; rfl, hB⟩
def orN (x y : Nat) : Nat := x ||| y
def ofL (l : List Int) : List Nat := l.foldl (fun acc i => turnW (fun x y => x ||| y) acc i.toNat) []
def ofE (l : List Int) : Int := if l.all mayB = true then 0 else 2
def ofS (l : List Int) : List Nat := if l.all mayB = true then trimW (ofL l) else []
theorem ofL_snoc (l : List Int) (i : Int) : ofL (l ++ [i]) = turnW (fun x y => x ||| y) (ofL l) i.toNat := by unfold ofL; rw [List.foldl_append]; rfl
theorem or_fit {x y : Nat} (hx : x < 18446744073709551616) (hy : y < 18446744073709551616) : x ||| y < 18446744073709551616 := Nat.or_lt_two_pow (n := 64) hx hy
theorem and_fit {x y : Nat} (hx : x < 18446744073709551616) (_ : y < 18446744073709551616) : x &&& y < 18446744073709551616 := Nat.lt_of_le_of_lt Nat.and_le_left hx
theorem minus_fit {x y : Nat} (hx : x < 18446744073709551616) (_ : y < 18446744073709551616) : minusN x y < 18446744073709551616 := Nat.lt_of_le_of_lt Nat.and_le_left hx
theorem turnW_fit {J : Nat → Nat → Nat} (hJ : ∀ x y, x < 18446744073709551616 → y < 18446744073709551616 → J x y < 18446744073709551616) {ws : List Nat} (hf : Fit ws) (k : Nat) : Fit (turnW J ws k) := by
  intro x hx
  unfold turnW at hx
  rcases List.mem_or_eq_of_mem_set hx with h | h
  · unfold padW at h
    rcases List.mem_append.1 h with h | h
    · exact hf x h
    · rw [List.eq_of_mem_replicate h]; decide
  · rw [h]
    exact hJ _ _ (wat_fit hf _) (Nat.pow_lt_pow_right (by decide) (Nat.mod_lt _ (by decide)))
theorem ofL_ok : ∀ (l : List Int), (∀ x ∈ l, mayB x = true) → Fit (ofL l) ∧ (ofL l).length ≤ 157 := by
  intro l
  refine snoc_cases (fun l => (∀ x ∈ l, mayB x = true) → Fit (ofL l) ∧ (ofL l).length ≤ 157) (fun _ => ⟨fun x hx => (by cases hx), Nat.zero_le _⟩) (fun l i ih h => ?_) l
  obtain ⟨h1, h2⟩ := ih (fun x hx => h x (by simp [hx]))
  obtain ⟨h3, h4⟩ := mayB_of (h i (by simp))
  rw [ofL_snoc]
  refine ⟨turnW_fit (fun x y => or_fit) h1 _, ?_⟩
  rw [turnW_length]
  omega
set_option maxRecDepth 100000 in
set_option maxHeartbeats 2000000 in
theorem ofI_any (A : Option Addr) (n c : Nat) (l : List Int) (w : World) (h : Rd intE w.heap.size w A l) (hn : n = l.length) (hl : n ≤ 1000000) :
    Calls Tryd.prog 28 #[.slice A n c] w fun e w' => ∃ v, e = .returned (.tuple #[.agg #[v], .int .i64 (ofE l)]) ∧ Own wE 43 w.heap.size w' v (ofS l) ∧ Ext w w' := by
  replace h := hide h
  replace hn := hide hn
  go_enter Tryd.func28, Tryd.ntmps28
  go_upto_region 1 with fail
  obtain ⟨w0, hw0⟩ : ∃ w0, w0 = w.alloc (.cells #[.slice none 0 0] 24) := ⟨_, rfl⟩
  rw [← hw0]
  have hE0 : Ext w w0 := by rw [hw0]; exact (Below.refl _ _).alloc (Nat.le_refl _) _
  have hbx : Hid (Box w0 w.heap.size 24 (.slice none 0 0)) := hide (by rw [hw0]; exact Box.new _ _ _)
  clear hw0
  go_wp2
  go_loopw [4, 9] (fun o i wr => ∃ k : Nat, k ≤ n ∧ i = .int .i64 k ∧ Hid (∀ x ∈ l.take k, mayB x = true) ∧ Hid (Own wE 43 w.heap.size wr o (ofL (l.take k))) ∧ Hid (Box wr w.heap.size 24 (.slice none 0 0)) ∧ Ext w wr) (fun _ i _ => n - (intOf i).toNat)
  case atStart => exact ⟨0, Nat.zero_le _, rfl, hide (by simp), hide Own.nil_, hbx, hE0⟩
  case round =>
    clear hbx hE0
    obtain ⟨k, hk, rfl, hall, hO, hbx, hB⟩ := hrel
    obtain ⟨hcc, hff⟩ := bcell hB
    have hsz := hB.size
    obtain ⟨A1, c1, rfl, hr1, hc1l, -⟩ := hO.out.rd
    obtain ⟨hfit, hlen⟩ := ofL_ok _ hall.out
    obtain ⟨n1, hn1⟩ : ∃ n1, n1 = (ofL (l.take k)).length := ⟨_, rfl⟩
    rw [← hn1] at hc1l hlen ⊢
    replace hn1 := hide hn1
    replace hr1 := hide hr1
    by_cases hlt : k < n
    · have hlt' : (k : Int) < (n : Int) := by omega
      obtain ⟨b, off, rfl, ra⟩ := h.out.at_ (i := k) (by rw [← hn.out]; exact hlt)
      obtain ⟨p, hp⟩ := get_some (xs := l) (i := k) (by rw [← hn.out]; exact hlt)
      have hpc := (ra.ext hB).int hp
      have hb := Nat.lt_of_lt_of_le ra.1 hsz
      have htk := take_snoc hp
      replace ra := hide ra
      cases hm : mayB p with
      | false =>
        have hna : l.all mayB = false := by
          rw [Bool.eq_false_iff]
          intro hc
          rw [List.all_eq_true.1 hc p (List.mem_of_getElem? hp)] at hm
          cases hm
        have hE : Hid (ofE l = 2) := hide (by unfold ofE; rw [hna]; rfl)
        have hS : Hid (ofS l = []) := hide (by unfold ofS; rw [hna]; rfl)
        have hcb := hbx.out.cell
        have hfb := hbx.out.free
        have hsb := hbx.out.lt
        have hx6 := hide (hbx.out.set (.slice none 0 0))
        replace hp := hide hp
        replace hm := hide hm
        replace hna := hide hna
        replace htk := hide htk
        go_wp2_with fail
        refine (may_any p _).mono ?_
        rintro e w2 ⟨rfl, hw2⟩
        subst hw2
        rw [hm.out]
        go_wp2
        refine bodyPost_ret (results_cell_tmp_row rfl _ _ w.heap.size 24 _ _ _ rfl hx6.out Tryd.underlying24 rfl (by kernel_rfl)) rfl ?_
        exact ⟨_, by rw [hE.out]; rfl, by rw [hS.out]; exact Own.nil_, hB.setCell (p := ⟨w.heap.size, 0, none⟩) (Nat.le_refl _) _⟩
      | true =>
        have hall2 : Hid (∀ x ∈ l.take (k + 1), mayB x = true) := hide (by
          rw [htk]
          intro x hx
          rcases List.mem_append.1 hx with h | h
          · exact hall.out x h
          · simp at h; subst h; exact hm)
        obtain ⟨h0, h1⟩ := mayB_of hm
        obtain ⟨q, rfl⟩ : ∃ q : Nat, p = q := ⟨p.toNat, by omega⟩
        have hq : q < 10000 := by omega
        have hsn : Hid (ofL (l.take (k + 1)) = turnW (fun x y => x ||| y) (ofL (l.take k)) q) := hide (by rw [htk, ofL_snoc]; rfl)
        replace hp := hide hp
        replace hm := hide hm
        replace htk := hide htk
        clear h0 h1
        go_wp2_with fail
        refine (may_any (q : Int) _).mono ?_
        rintro e w2 ⟨rfl, hw2⟩
        subst hw2
        rw [hm.out]
        go_wp2_with fail
        refine (turned_any 45 (fun x y => x ||| y) orJ enter_or A1 n1 c1 (ofL (l.take k)) q _ hr1.out hn1.out (by omega) hq hfit).mono ?_
        rintro e w3 ⟨v, rfl, hO3, hE3⟩
        have hB3 := hB.trans (hE3.mono hsz)
        have hbx3 := hide (hbx.out.ext hE3)
        have hO4 : Hid (Own wE 43 w.heap.size w3 v (ofL (l.take (k + 1)))) := hide (by rw [hsn.out]; exact hO3.base_le hsz)
        obtain ⟨A3, c3, rfl, -, -, -⟩ := hO4.out.rd
        clear hO3
        go_wp2
        refine ⟨?_, ?_⟩
        · first
            | exact ⟨k + 1, by omega, by go_num, hall2, hO4, hbx3, hB3⟩
            | ((repeat apply Exists.intro); exact ⟨⟨k + 1, by omega, by go_num, hall2, hO4, hbx3, hB3⟩, rfl⟩)
        · first | (simp [intOf, lenV]; omega) | (simp [intOf]; omega) | (simp [intOf]; done)
    · obtain rfl : k = n := by omega
      have htl : l.take k = l := by rw [hn.out, List.take_length]
      have hal : l.all mayB = true := by rw [List.all_eq_true]; rw [← htl]; exact hall.out
      have hE : Hid (ofE l = 0) := hide (by unfold ofE; rw [hal]; rfl)
      have hS : Hid (ofS l = trimW (ofL (l.take k))) := hide (by unfold ofS; rw [hal, htl]; rfl)
      replace htl := hide htl
      replace hal := hide hal
      go_wp2_with fail
      refine (made_any A1 n1 c1 (ofL (l.take k)) _ hr1.out hn1.out (by omega) hc1l).mono ?_
      rintro e w4 ⟨v4, rfl, hO4, hE4⟩
      have hx5 := hbx.out.ext hE4
      have hB4 := hB.trans (hE4.mono hsz)
      have hcb := hx5.cell
      have hfb := hx5.free
      have hsb := hx5.lt
      have hO5 := hide ((hO4.base_le hsz).set hx5 (by decide) v4)
      have hx6 := hide (hx5.set v4)
      obtain ⟨A7, c7, rfl, -, -, -⟩ := hO4.rd
      clear hO4
      go_wp2
      refine bodyPost_ret (results_cell_tmp_row rfl _ _ w.heap.size 24 _ _ _ rfl hx6.out Tryd.underlying24 rfl (by kernel_rfl)) rfl ?_
      exact ⟨_, by rw [hE.out]; rfl, by rw [hS.out]; exact hO5.out, hB4.setCell (p := ⟨w.heap.size, 0, none⟩) (Nat.le_refl _) _⟩
end Go.Proofs.YtkiklbngfocljaaDoor
