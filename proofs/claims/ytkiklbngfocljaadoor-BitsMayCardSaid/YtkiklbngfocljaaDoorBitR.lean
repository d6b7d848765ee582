/- Sets of numbers: the document's answers: bit, Has, Some, Same, numbers. -/
import Derived.Test.YtkiklbngfocljaaDoorBitT
namespace Go.Proofs.YtkiklbngfocljaaDoor
open Go.RowKit

theorem bit_any (x k : Nat) (hx : x < 18446744073709551616) (hk : k < 64) (w : World) :
    Calls Tryd.prog 55 #[.int .u64 x, .int .i64 k] w fun e w' => e = .returned (.bool (x.testBit k)) ∧ w' = w := by
  go_enter Tryd.func55, Tryd.ntmps55
  go_wp2
  go_loopw [0, 6] (fun s i wr => ∃ (j y : Nat), j ≤ k ∧ i = .int .i64 j ∧ s = .int .u64 y ∧ Hid (y = x / 2 ^ j) ∧ y < 18446744073709551616 ∧ wr = w) (fun _ i _ => k - (intOf i).toNat)
  case atStart => exact ⟨0, x, Nat.zero_le _, rfl, rfl, hide (by simp), hx, rfl⟩
  case round =>
    obtain ⟨j, y, hj, rfl, rfl, hy, hy64, hwr⟩ := hrel
    subst hwr
    by_cases hlt : j < k
    · have hlt' : (j : Int) < (k : Int) := by omega
      obtain ⟨z, hz⟩ : ∃ z, z = y / 2 := ⟨_, rfl⟩
      have u1 : Int.tdiv (y : Int) 2 = (z : Int) := by rw [hz]; simp
      have u2 : (y : Int) / 2 = (z : Int) := by omega
      have hz2 : Hid (z = x / 2 ^ (j + 1)) := hide (by rw [hz, hy.out, Nat.div_div_eq_div_mul, ← Nat.pow_succ])
      have hz64 : z < 18446744073709551616 := by omega
      replace hz := hide hz
      go_wp2
      refine ⟨?_, ?_⟩
      · first
          | exact ⟨j + 1, z, by omega, by go_num, rfl, hz2, hz64, trivial⟩
          | ((repeat apply Exists.intro); exact ⟨⟨j + 1, z, by omega, by go_num, rfl, hz2, hz64, trivial⟩, rfl⟩)
      · first | (simp [intOf, lenV]; omega) | (simp [intOf]; omega) | (simp [intOf]; done)
    · obtain rfl : j = k := by omega
      obtain ⟨t, ht⟩ : ∃ t, t = y % 2 := ⟨_, rfl⟩
      have u1 : Int.tmod (y : Int) 2 = (t : Int) := by rw [ht, Int.tmod_eq_emod_of_nonneg (by omega)]; omega
      have u2 : (y : Int) % 2 = (t : Int) := by omega
      have hfin : Hid (x.testBit j = ((t : Int) == 1)) := hide (by
        rw [Nat.testBit_eq_decide_div_mod_eq, ← hy.out, ← ht, Bool.eq_iff_iff, decide_eq_true_iff, beq_iff_eq]
        omega)
      replace ht := hide ht
      go_wp2
      go_ret
      exact ⟨by rw [hfin.out]; rfl, rfl⟩
def hasL (l : List Int) (n : Int) : Bool := decide (n ∈ l)
theorem refHas_any (A : Option Addr) (n c : Nat) (l : List Int) (x : Int) (w : World) (h : Rd intE w.heap.size w A l) (hn : n = l.length) (hl : n ≤ 1000000) :
    Calls Tryd.prog 19 #[.slice A n c, .int .i64 x] w fun e w' => e = .returned (.bool (hasL l x)) ∧ w' = w := by
  replace h := hide h
  replace hn := hide hn
  go_enter Tryd.func19, Tryd.ntmps19
  go_wp2
  go_loopw [9] (fun i wr => ∃ k : Nat, k ≤ n ∧ i = .int .i64 k ∧ Hid (x ∉ l.take k) ∧ wr = w) (fun i _ => n - (intOf i).toNat)
  case atStart => exact ⟨0, Nat.zero_le _, rfl, hide (by simp), rfl⟩
  case round =>
    obtain ⟨k, hk, rfl, hno, hwr⟩ := hrel
    subst hwr
    by_cases hlt : k < n
    · have hlt' : (k : Int) < (n : Int) := by omega
      obtain ⟨b, off, rfl, ra⟩ := h.out.at_ (i := k) (by rw [← hn.out]; exact hlt)
      obtain ⟨p, hp⟩ := get_some (xs := l) (i := k) (by rw [← hn.out]; exact hlt)
      have hpc := ra.int hp
      have hb := ra.1
      by_cases he : p = x
      · subst he
        have hfin : Hid (hasL l p = true) := hide (decide_eq_true (List.mem_of_getElem? hp))
        replace hp := hide hp
        replace ra := hide ra
        replace hno := hide trivial
        go_wp2
        go_ret
        exact ⟨by rw [hfin.out]; rfl, rfl⟩
      · have he' : (p == x) = false := beq_eq_false_iff_ne.2 he
        have hno2 : Hid (x ∉ l.take (k + 1)) := hide (by
          rw [take_snoc hp]
          intro hc
          rcases List.mem_append.1 hc with h | h
          · exact hno.out h
          · simp at h; exact he h.symm)
        replace he := hide he
        replace hp := hide hp
        replace ra := hide ra
        go_wp2
        refine ⟨?_, ?_⟩
        · first
            | exact ⟨k + 1, by omega, by go_num, hno2, trivial⟩
            | ((repeat apply Exists.intro); exact ⟨⟨k + 1, by omega, by go_num, hno2, trivial⟩, rfl⟩)
        · first | (simp [intOf, lenV]; omega) | (simp [intOf]; omega) | (simp [intOf]; done)
    · obtain rfl : k = n := by omega
      have hfin : Hid (hasL l x = false) := hide (decide_eq_false (by have h := hno.out; rw [hn.out, List.take_length] at h; exact h))
      go_wp2
      go_ret
      exact ⟨by rw [hfin.out]; rfl, rfl⟩
def someL (a b : List Int) (f : Bool) : List Int := a.filter fun x => hasL b x == f
set_option maxRecDepth 100000 in
set_option maxHeartbeats 2000000 in
theorem refSome_any (f : Bool) (A1 A2 : Option Addr) (n1 c1 n2 c2 : Nat) (xs ys : List Int) (w : World) (h1 : Rd intE w.heap.size w A1 xs) (h2 : Rd intE w.heap.size w A2 ys) (hn1 : n1 = xs.length) (hn2 : n2 = ys.length) (hl1 : n1 ≤ 1000000) (hl2 : n2 ≤ 1000000) :
    Calls Tryd.prog 21 #[.slice A1 n1 c1, .slice A2 n2 c2, .bool f] w fun e w' => ∃ v, e = .returned v ∧ Own intE 3 w.heap.size w' v (someL xs ys f) ∧ Ext w w' := by
  replace h1 := hide h1
  replace h2 := hide h2
  replace hn1 := hide hn1
  replace hn2 := hide hn2
  go_enter Tryd.func21, Tryd.ntmps21
  go_wp2
  go_loopw [7, 12] (fun o i wr => ∃ k : Nat, k ≤ n1 ∧ i = .int .i64 k ∧ Hid (Own intE 3 w.heap.size wr o (someL (xs.take k) ys f)) ∧ Ext w wr) (fun _ i _ => n1 - (intOf i).toNat)
  case atStart => exact ⟨0, Nat.zero_le _, rfl, hide Own.nil_, Below.refl _ _⟩
  case round =>
    obtain ⟨k, hk, rfl, hO, hB⟩ := hrel
    obtain ⟨hcc, hff⟩ := bcell hB
    have hsz := hB.size
    have hle : (someL (xs.take k) ys f).length ≤ n1 := Nat.le_trans (List.length_filter_le _ _) (by rw [List.length_take]; omega)
    by_cases hlt : k < n1
    · have hlt' : (k : Int) < (n1 : Int) := by omega
      obtain ⟨b, off, rfl, ra⟩ := h1.out.at_ (i := k) (by rw [← hn1.out]; exact hlt)
      obtain ⟨p, hp⟩ := get_some (xs := xs) (i := k) (by rw [← hn1.out]; exact hlt)
      have hpc := ra.int hp
      have hb := ra.1
      have htk := take_snoc hp
      have hbs := Nat.lt_of_lt_of_le hb hsz
      replace ra := hide ra
      by_cases hf : hasL ys p = f
      · have hst : Hid (someL (xs.take (k + 1)) ys f = someL (xs.take k) ys f ++ [p]) := hide (by rw [htk]; unfold someL; rw [List.filter_append]; simp [hf])
        replace hp := hide hp
        replace htk := hide htk
        go_wp2_with fail
        refine (refHas_any A2 n2 c2 ys p _ (h2.out.ext hB) hn2.out hl2).mono ?_
        rintro e w2 ⟨rfl, hw2⟩
        subst hw2
        rw [hf]
        replace hf := hide hf
        obtain ⟨A3, c3, rfl, -, -, -⟩ := hO.out.rd
        obtain ⟨n3, hn3⟩ : ∃ n3, n3 = (someL (xs.take k) ys f).length := ⟨_, rfl⟩
        replace hO := hO.out
        rw [← hn3] at hO hle ⊢
        replace hO := hide hO
        replace hn3 := hide hn3
        have hon := own_new (base := 0) (e := 3) intE w2 p w2.heap.size rfl (Nat.zero_le _)
        obtain ⟨A4, c4, hv1, hr4, -, -⟩ := hon.rd
        injection hv1 with hv2 hv3 hv4
        subst hv2
        clear hon hv3 hv4
        replace hr4 := hide hr4
        have hO1 := hide (hO.out.alloc (.cells (intE.cs p).toArray 3))
        go_wp2_with (at_builtin; refine wpList_app tyInt rfl (.tmp 21) (.tmp 23) rfl rfl hO1.out rfl hr4.out rfl (by have := hn3.out; simp at this ⊢; omega) (by simp; omega) ?_)
        intro v' w' hown' hg hne' hnil
        have hB' : Ext w w' := Own.below hO1.out (hB.alloc hsz _) hg (by simp; omega)
        have hown2 : Hid (Own intE 3 w.heap.size w' v' (someL (xs.take (k + 1)) ys f)) := hide (by rw [hst.out]; exact hown')
        clear hown' hne' hnil hg hO1 hr4
        go_wp2
        refine ⟨?_, ?_⟩
        · first
            | exact ⟨k + 1, by omega, by go_num, hown2, hB'⟩
            | ((repeat apply Exists.intro); exact ⟨⟨k + 1, by omega, by go_num, hown2, hB'⟩, rfl⟩)
        · first | (simp [intOf, lenV]; omega) | (simp [intOf]; omega) | (simp [intOf]; done)
      · have hf2 : (hasL ys p == f) = false := beq_eq_false_iff_ne.2 hf
        have hst : Hid (someL (xs.take (k + 1)) ys f = someL (xs.take k) ys f) := hide (by rw [htk]; unfold someL; rw [List.filter_append]; simp [hf])
        have hO2 : Hid (Own intE 3 w.heap.size wr u7 (someL (xs.take (k + 1)) ys f)) := hide (by rw [hst.out]; exact hO.out)
        replace hp := hide hp
        replace htk := hide htk
        replace hf := hide hf
        go_wp2_with fail
        refine (refHas_any A2 n2 c2 ys p _ (h2.out.ext hB) hn2.out hl2).mono ?_
        rintro e w2 ⟨rfl, hw2⟩
        subst hw2
        go_wp2
        refine ⟨?_, ?_⟩
        · first
            | exact ⟨k + 1, by omega, by go_num, hO2, hB⟩
            | ((repeat apply Exists.intro); exact ⟨⟨k + 1, by omega, by go_num, hO2, hB⟩, rfl⟩)
        · first | (simp [intOf, lenV]; omega) | (simp [intOf]; omega) | (simp [intOf]; done)
    · obtain rfl : k = n1 := by omega
      have htl : xs.take k = xs := by rw [hn1.out, List.take_length]
      obtain ⟨A3, c3, rfl, -, -, -⟩ := hO.out.rd
      replace htl := hide htl
      go_wp2
      go_ret
      refine ⟨_, rfl, ?_, hB⟩
      have h := hO.out
      rw [htl.out] at h ⊢
      exact h
set_option maxHeartbeats 2000000 in
theorem refSame_any (A1 A2 : Option Addr) (n1 c1 n2 c2 : Nat) (xs ys : List Nat) (w : World) (h1 : Rd wE w.heap.size w A1 xs) (hn1 : n1 = xs.length) (hl1 : n1 ≤ 1000000) (h2 : Rd wE w.heap.size w A2 ys) (hn2 : n2 = ys.length) :
    Calls Tryd.prog 20 #[.agg #[.slice A1 n1 c1], .agg #[.slice A2 n2 c2]] w fun e w' => e = .returned (.bool (decide (xs = ys))) ∧ Ext w w' := by
  replace h1 := hide h1
  replace h2 := hide h2
  replace hn1 := hide hn1
  replace hn2 := hide hn2
  go_enter Tryd.func20, Tryd.ntmps20
  go_upto_region 1 with fail
  obtain ⟨w0, hw0⟩ : ∃ w0, w0 = (w.alloc (.cells #[.slice A1 n1 c1] 24)).alloc (.cells #[.slice A2 n2 c2] 24) := ⟨_, rfl⟩
  rw [← hw0]
  have hE0 : Ext w w0 := by rw [hw0]; exact ((Below.refl _ _).alloc (Nat.le_refl _) _).alloc (by simp) _
  have hc2 : w0.cell? ⟨w.heap.size, 0, none⟩ = some (.slice A1 n1 c1) := by rw [hw0]; exact ((Box.new w _ _).alloc _).cell
  have hc3 : w0.cell? ⟨w.heap.size + 1, 0, none⟩ = some (.slice A2 n2 c2) := by
    rw [hw0]
    have := Box.new (w.alloc (.cells #[.slice A1 n1 c1] 24)) 24 (.slice A2 n2 c2)
    rw [World.size_alloc] at this
    exact this.cell
  have hsz : w0.heap.size = w.heap.size + 1 + 1 := by rw [hw0]; simp
  clear hw0
  obtain ⟨b3, hb3⟩ : ∃ b, b = w.heap.size + 1 := ⟨_, rfl⟩
  rw [← hb3] at hc3 hsz ⊢
  have hb2 : w.heap.size < w0.heap.size := by omega
  have hb3' : b3 < w0.heap.size := by omega
  clear hb3 hsz
  by_cases hlen : n1 = n2
  · subst hlen
    have hlen2 : Hid (xs.length = ys.length) := hide (hn1.out.symm.trans hn2.out)
    go_wp2
    go_loopw [17] (fun i wr => ∃ k : Nat, k ≤ n1 ∧ i = .int .i64 k ∧ Hid (xs.take k = ys.take k) ∧ wr = w0) (fun i _ => n1 - (intOf i).toNat)
    case atStart => exact ⟨0, Nat.zero_le _, rfl, hide rfl, rfl⟩
    case round =>
      obtain ⟨k, hk, rfl, hsame, hwr⟩ := hrel
      subst hwr
      by_cases hlt : k < n1
      · have hlt' : (k : Int) < (n1 : Int) := by omega
        obtain ⟨b1, o1, rfl, ra1⟩ := h1.out.at_ (i := k) (by rw [← hn1.out]; exact hlt)
        obtain ⟨b2, o2, rfl, ra2⟩ := h2.out.at_ (i := k) (by rw [← hn2.out]; exact hlt)
        have hbb1 := Nat.lt_of_lt_of_le ra1.1 hE0.size
        have hbb2 := Nat.lt_of_lt_of_le ra2.1 hE0.size
        obtain ⟨p1, hp1⟩ := get_some (xs := xs) (i := k) (by rw [← hn1.out]; exact hlt)
        obtain ⟨p2, hp2⟩ := get_some (xs := ys) (i := k) (by rw [← hn2.out]; exact hlt)
        have hx1 := (ra1.ext hE0).word hp1
        have hx2 := (ra2.ext hE0).word hp2
        replace ra1 := hide ra1
        replace ra2 := hide ra2
        by_cases he : p1 = p2
        · have hsame2 : Hid (xs.take (k + 1) = ys.take (k + 1)) := hide (by rw [take_snoc hp1, take_snoc hp2, hsame.out, he])
          subst he
          replace hp1 := hide hp1
          replace hp2 := hide hp2
          go_wp2
          refine ⟨?_, ?_⟩
          · first
              | exact ⟨k + 1, by omega, by go_num, hsame2, trivial⟩
              | ((repeat apply Exists.intro); exact ⟨⟨k + 1, by omega, by go_num, hsame2, trivial⟩, rfl⟩)
          · first | (simp [intOf, lenV]; omega) | (simp [intOf]; omega) | (simp [intOf]; done)
        · have hne : Hid (decide (xs = ys) = false) := hide (decide_eq_false (fun h => by subst h; rw [hp1] at hp2; injection hp2 with hp2; exact he hp2))
          have he' : ((p1 : Int) == (p2 : Int)) = false := by rw [beq_eq_false_iff_ne]; omega
          replace he := hide he
          replace hp1 := hide hp1
          replace hp2 := hide hp2
          go_wp2
          go_ret
          exact ⟨by rw [hne.out]; rfl, hE0⟩
      · obtain hkn : k = n1 := by omega
        have hfin : Hid (decide (xs = ys) = true) := hide (decide_eq_true (by
          have h := hsame.out
          rw [hkn, hn1.out, List.take_length, hlen2.out, List.take_length] at h
          exact h))
        subst hkn
        go_wp2
        go_ret
        exact ⟨by rw [hfin.out]; rfl, hE0⟩
  · have hne : Hid (decide (xs = ys) = false) := hide (decide_eq_false (fun h => hlen (by rw [hn1.out, hn2.out, h])))
    have hlen' : ((n1 : Int) == (n2 : Int)) = false := by rw [beq_eq_false_iff_ne]; omega
    replace hlen := hide hlen
    go_wp2
    go_ret
    exact ⟨by rw [hne.out]; rfl, hE0⟩
/-- the first bits of a word -/
def lowBits (x k : Nat) : List Nat := (List.range k).filter x.testBit
theorem lowBits_succ (x k : Nat) : lowBits x (k + 1) = lowBits x k ++ if x.testBit k = true then [k] else [] := by
  unfold lowBits
  rw [List.range_succ, List.filter_append]
  congr 1
  by_cases h : x.testBit k = true
  · rw [if_pos h, List.filter_cons_of_pos h]; rfl
  · rw [if_neg h, List.filter_cons_of_neg h]; rfl
theorem lowBits_zero (k : Nat) : lowBits 0 k = [] := by
  unfold lowBits
  rw [List.filter_eq_nil_iff]
  intro a _
  rw [Nat.zero_testBit]
  exact Bool.false_ne_true
theorem lowBits_le (x k : Nat) : (lowBits x k).length ≤ k := Nat.le_trans (List.length_filter_le _ _) (by simp)
theorem natsI_append (a b : List Nat) : natsI (a ++ b) = natsI a ++ natsI b := List.map_append
set_option maxRecDepth 100000 in
set_option maxHeartbeats 4000000 in
theorem refNumbers_any (A : Option Addr) (n c : Nat) (ws : List Nat) (w : World) (h : Rd wE w.heap.size w A ws) (hn : n = ws.length) (hl : n ≤ 1000) (hf : Fit ws) :
    Calls Tryd.prog 39 #[.agg #[.slice A n c]] w fun e w' => ∃ v, e = .returned v ∧ Own intE 3 w.heap.size w' v (natsI (nums ws)) ∧ Ext w w' := by
  replace h := hide h
  replace hn := hide hn
  go_enter Tryd.func39, Tryd.ntmps39
  go_upto_region 1 with fail
  obtain ⟨w0, hw0⟩ : ∃ w0, w0 = w.alloc (.cells #[.slice A n c] 24) := ⟨_, rfl⟩
  rw [← hw0]
  have hE0 : Ext w w0 := by rw [hw0]; exact (Below.refl _ _).alloc (Nat.le_refl _) _
  have hb0 : w.heap.size < w0.heap.size := by rw [hw0]; simp
  have hc0 : w0.cell? ⟨w.heap.size, 0, none⟩ = some (.slice A n c) := by rw [hw0]; simp [World.cell?_alloc_new]
  clear hw0
  go_wp2
  go_loopw [3, 10] (fun o i wr => ∃ k : Nat, k ≤ n ∧ i = .int .i64 k ∧ Hid (Own intE 3 w.heap.size wr o (natsI (nums (ws.take k)))) ∧ Ext w wr) (fun _ i _ => n - (intOf i).toNat)
  case atStart => exact ⟨0, Nat.zero_le _, rfl, hide Own.nil_, hE0⟩
  case round =>
    obtain ⟨k, hk, rfl, hO, hB⟩ := hrel
    obtain ⟨hcc, hff⟩ := bcell hB
    have hsz := hB.size
    by_cases hlt : k < n
    · have hlt' : (k : Int) < (n : Int) := by omega
      obtain ⟨b, off, rfl, ra⟩ := h.out.at_ (i := k) (by rw [← hn.out]; exact hlt)
      obtain ⟨x, hx⟩ := get_some (xs := ws) (i := k) (by rw [← hn.out]; exact hlt)
      have hxc := (ra.ext hB).word hx
      have hb := Nat.lt_of_lt_of_le ra.1 hsz
      have hx64 := hf x (List.mem_of_getElem? hx)
      have hsn := hide (nums_snoc hx)
      have hnl : (nums (ws.take k)).length ≤ 64 * k := by
        have h1 := nums_length (ws.take k)
        rw [List.length_take] at h1
        omega
      obtain ⟨p, hp⟩ : ∃ p, p = 64 * k := ⟨_, rfl⟩
      rw [← hp] at hsn hnl
      have u6 : IntKind.i64.wrap (64 * (k : Int)) = (p : Int) := by rw [IntWalk.i64_in _ (by omega)]; omega
      have hp7 : p < 64000 := by omega
      replace hx := hide hx
      replace ra := hide ra
      replace hp := hide hp
      go_wp2
      go_loopw [3, 15] (fun o i wr => ∃ j : Nat, j ≤ 64 ∧ i = .int .i64 j ∧ Hid (Own intE 3 w.heap.size wr o (natsI (nums (ws.take k) ++ (lowBits x j).map (p + ·)))) ∧ Ext w wr) (fun _ i _ => 64 - (intOf i).toNat)
      case atStart => exact ⟨0, Nat.zero_le _, rfl, hide (by simpa [lowBits] using hO.out), hB⟩
      case round =>
        clear hO hB hcc hff hsz hxc hb
        obtain ⟨j, hj, rfl, hO, hB⟩ := hrel
        have hsz := hB.size
        by_cases hlt2 : j < 64
        · have hlt2' : (j : Int) < 64 := by omega
          by_cases hx0 : x = 0
          · subst hx0
            have hO2 : Hid (Own intE 3 w.heap.size _ _ (natsI (nums (ws.take k) ++ (lowBits 0 (j + 1)).map (p + ·)))) := hide (by have h := hO.out; rw [lowBits_zero] at h ⊢; exact h)
            go_wp2
            refine ⟨?_, ?_⟩
            · first
                | exact ⟨j + 1, by omega, by go_num, hO2, hB⟩
                | ((repeat apply Exists.intro); exact ⟨⟨j + 1, by omega, by go_num, hO2, hB⟩, rfl⟩)
            · first | (simp [intOf, lenV]; omega) | (simp [intOf]; omega) | (simp [intOf]; done)
          · have hx0' : ((x : Int) == 0) = false := by rw [beq_eq_false_iff_ne]; omega
            replace hx0 := hide hx0
            by_cases hbit : x.testBit j = true
            · have hst : Hid (natsI (nums (ws.take k) ++ (lowBits x (j + 1)).map (p + ·)) = natsI (nums (ws.take k) ++ (lowBits x j).map (p + ·)) ++ [((p + j : Nat) : Int)]) := hide (by
                rw [lowBits_succ, if_pos hbit, List.map_append, ← List.append_assoc, natsI_append]; rfl)
              have hle : (natsI (nums (ws.take k) ++ (lowBits x j).map (p + ·))).length ≤ p + 64 := by
                have h1 := lowBits_le x j
                unfold natsI
                simp only [List.length_map, List.length_append]
                omega
              obtain ⟨n3, hn3⟩ : ∃ n3, n3 = (natsI (nums (ws.take k) ++ (lowBits x j).map (p + ·))).length := ⟨_, rfl⟩
              obtain ⟨q, hq⟩ : ∃ q, q = p + j := ⟨_, rfl⟩
              rw [← hq] at hst
              have u9 : IntKind.i64.wrap ((p : Int) + (j : Int)) = (q : Int) := by rw [IntWalk.i64_in _ (by omega)]; omega
              replace hq := hide hq
              go_wp2_with fail
              refine (bit_any x j hx64 hlt2 _).mono ?_
              rintro e w2 ⟨rfl, hw2⟩
              subst hw2
              rw [hbit]
              replace hbit := hide hbit
              obtain ⟨A3, c3, rfl, -, -, -⟩ := hO.out.rd
              replace hO := hO.out
              rw [← hn3] at hO hle ⊢
              replace hO := hide hO
              replace hn3 := hide hn3
              have hon := own_new (base := 0) (e := 3) intE w2 (q : Int) w2.heap.size rfl (Nat.zero_le _)
              obtain ⟨A4, c4, hv1, hr4, -, -⟩ := hon.rd
              injection hv1 with hv2 hv3 hv4
              subst hv2
              clear hon hv3 hv4
              replace hr4 := hide hr4
              have hO1 := hide (hO.out.alloc (.cells (intE.cs (q : Int)).toArray 3))
              go_wp2_with (at_builtin; refine wpList_app tyInt rfl (.tmp 25) (.tmp 30) rfl rfl hO1.out rfl hr4.out rfl (by have := hn3.out; simp at this ⊢; omega) (by simp; omega) ?_)
              intro v' w' hown' hg hne' hnil
              have hB' : Ext w w' := Own.below hO1.out (hB.alloc hsz _) hg (by simp; omega)
              have hown2 : Hid (Own intE 3 w.heap.size w' v' (natsI (nums (ws.take k) ++ (lowBits x (j + 1)).map (p + ·)))) := hide (by rw [hst.out]; exact hown')
              clear hown' hne' hnil hg hO1 hr4
              go_wp2
              refine ⟨?_, ?_⟩
              · first
                  | exact ⟨j + 1, by omega, by go_num, hown2, hB'⟩
                  | ((repeat apply Exists.intro); exact ⟨⟨j + 1, by omega, by go_num, hown2, hB'⟩, rfl⟩)
              · first | (simp [intOf, lenV]; omega) | (simp [intOf]; omega) | (simp [intOf]; done)
            · have hbf : x.testBit j = false := by cases h : x.testBit j; rfl; exact absurd h hbit
              have hst : Hid (lowBits x (j + 1) = lowBits x j) := hide (by rw [lowBits_succ, if_neg hbit, List.append_nil])
              clear hbit
              have hO2 : Hid (Own intE 3 w.heap.size _ _ (natsI (nums (ws.take k) ++ (lowBits x (j + 1)).map (p + ·)))) := hide (by rw [hst.out]; exact hO.out)
              go_wp2_with fail
              refine (bit_any x j hx64 hlt2 _).mono ?_
              rintro e w2 ⟨rfl, hw2⟩
              subst hw2
              rw [hbf]
              clear hbf
              go_wp2
              refine ⟨?_, ?_⟩
              · first
                  | exact ⟨j + 1, by omega, by go_num, hO2, hB⟩
                  | ((repeat apply Exists.intro); exact ⟨⟨j + 1, by omega, by go_num, hO2, hB⟩, rfl⟩)
              · first | (simp [intOf, lenV]; omega) | (simp [intOf]; omega) | (simp [intOf]; done)
        · obtain rfl : j = 64 := by omega
          have hO2 : Hid (Own intE 3 w.heap.size _ _ (natsI (nums (ws.take (k + 1))))) := hide (by rw [hsn.out]; exact hO.out)
          go_wp2
          refine ⟨?_, ?_⟩
          · first
              | exact ⟨k + 1, by omega, by go_num, hO2, hB⟩
              | ((repeat apply Exists.intro); exact ⟨⟨k + 1, by omega, by go_num, hO2, hB⟩, rfl⟩)
          · first | (simp [intOf, lenV]; omega) | (simp [intOf]; omega) | (simp [intOf]; done)
    · obtain hkn : k = n := by omega
      have hO2 : Hid (Own intE 3 w.heap.size _ _ (natsI (nums ws))) := hide (by have h := hO.out; rw [hkn, hn.out, List.take_length] at h; exact h)
      subst hkn
      obtain ⟨A3, c3, rfl, -, -, -⟩ := hO2.out.rd
      go_wp2
      go_ret
      exact ⟨_, rfl, hO2.out, hB⟩
end Go.Proofs.YtkiklbngfocljaaDoor
