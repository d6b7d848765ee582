/- Sets of numbers: the document's answers: Right, List. -/
import Derived.Test.YtkiklbngfocljaaDoorBitR
import Derived.Test.YtkiklbngfocljaaDoorBitBP
namespace Go.Proofs.YtkiklbngfocljaaDoor
open Go.RowKit

theorem right_bad {ws : List Nat} (hf : Fit ws) {p : Int} (hp : p ∈ natsI (nums ws)) (h : ¬ p < 10000) : decide (chkW ws = 0) = false := by
  refine decide_eq_false (fun hc => ?_)
  obtain ⟨n, hn, rfl⟩ := mem_natsI.1 hp
  have := ((chk_good hf).1 hc).2 n ((mem_nums hf).1 hn)
  omega
theorem right_long {ws : List Nat} (h : 157 < ws.length) : decide (chkW ws = 0) = false := by
  refine decide_eq_false (fun hc => ?_)
  cases hl : ws.getLast? with
  | none => rw [List.getLast?_eq_none_iff] at hl; subst hl; simp at h
  | some x =>
    rw [chkW_last hl] at hc
    unfold badW at hc
    rw [decide_eq_true h] at hc
    simp at hc
theorem right_nil : decide (chkW [] = 0) = true := rfl
theorem right_last {ws : List Nat} (hf : Fit ws) (h : ∀ p ∈ natsI (nums ws), p < 10000) {x : Nat} (hl : ws.getLast? = some x) : decide (chkW ws = 0) = decide (x ≠ 0) := by
  rw [Bool.eq_iff_iff, decide_eq_true_iff, decide_eq_true_iff, chk_good hf]
  constructor
  · intro hg; exact hg.1 x hl
  · intro hx
    refine ⟨fun y hy => by rw [hl] at hy; injection hy with hy; rw [← hy]; exact hx, fun n hn => ?_⟩
    have := h (n : Int) (mem_natsI.2 ⟨n, (mem_nums hf).2 hn, rfl⟩)
    omega
set_option maxRecDepth 100000 in
set_option maxHeartbeats 4000000 in
theorem refRight_any (A : Option Addr) (n c : Nat) (ws : List Nat) (w : World) (h : Rd wE w.heap.size w A ws) (hn : n = ws.length) (hl : n ≤ 1000) (hf : Fit ws) :
    Calls Tryd.prog 23 #[.agg #[.slice A n c]] w fun e w' => e = .returned (.bool (decide (chkW ws = 0))) ∧ Ext w w' := by
  replace h := hide h
  replace hn := hide hn
  go_enter Tryd.func23, Tryd.ntmps23
  go_upto_region 1 with fail
  obtain ⟨w0, hw0⟩ : ∃ w0, w0 = w.alloc (.cells #[.slice A n c] 24) := ⟨_, rfl⟩
  rw [← hw0]
  have hE0 : Ext w w0 := by rw [hw0]; exact (Below.refl _ _).alloc (Nat.le_refl _) _
  have hb0 : w.heap.size < w0.heap.size := by rw [hw0]; simp
  have hc0 : w0.cell? ⟨w.heap.size, 0, none⟩ = some (.slice A n c) := by rw [hw0]; simp [World.cell?_alloc_new]
  clear hw0
  by_cases h157 : 157 < n
  · have h157' : (157 : Int) < (n : Int) := by omega
    have hfin : Hid (decide (chkW ws = 0) = false) := hide (right_long (by rw [← hn.out]; exact h157))
    go_wp2
    go_ret
    exact ⟨by rw [hfin.out]; rfl, hE0⟩
  · have h157' : ¬ (157 : Int) < (n : Int) := by omega
    have h158 : (n : Int) ≤ 157 := by omega
    replace h157 := hide h157
    go_wp2_with fail
    refine (refNumbers_any A n c ws _ (h.out.ext hE0) hn.out hl hf).mono ?_
    rintro e w1 ⟨v, rfl, hO, hE1⟩
    obtain ⟨A5, c5, rfl, hr5, -, -⟩ := hO.rd
    have hE2 : Ext w w1 := hE0.trans (hE1.mono hE0.size)
    have hc1 : w1.cell? ⟨w.heap.size, 0, none⟩ = some (.slice A n c) := by rw [hE1.cell hb0]; exact hc0
    have hb1 : w.heap.size < w1.heap.size := Nat.lt_of_lt_of_le hb0 hE1.size
    have hm5 : (natsI (nums ws)).length ≤ 64000 := by
      have h1 := nums_length ws
      have h2 := hn.out
      unfold natsI
      rw [List.length_map]
      omega
    obtain ⟨m, hm⟩ : ∃ m, m = (natsI (nums ws)).length := ⟨_, rfl⟩
    rw [← hm] at hm5 ⊢
    replace hm := hide hm
    have hr5 := hide hr5
    clear hO hE1 hE0 hc0 hb0
    go_wp2
    go_loopw [14] (fun i wr => ∃ k : Nat, k ≤ m ∧ i = .int .i64 k ∧ Hid (∀ p ∈ (natsI (nums ws)).take k, p < 10000) ∧ wr = w1) (fun i _ => m - (intOf i).toNat)
    case atStart => exact ⟨0, Nat.zero_le _, rfl, hide (by simp), rfl⟩
    case round =>
      obtain ⟨k, hk, rfl, hall, hwr⟩ := hrel
      subst hwr
      by_cases hlt : k < m
      · have hlt' : (k : Int) < (m : Int) := by omega
        obtain ⟨b, off, rfl, ra⟩ := hr5.out.at_ (i := k) (by rw [← hm.out]; exact hlt)
        obtain ⟨p, hp⟩ := get_some (xs := natsI (nums ws)) (i := k) (by rw [← hm.out]; exact hlt)
        have hpc := ra.int hp
        have hb := ra.1
        replace ra := hide ra
        by_cases hbig : p < 10000
        · have hall2 : Hid (∀ q ∈ (natsI (nums ws)).take (k + 1), q < 10000) := hide (by
            rw [take_snoc hp]
            intro q hq
            rcases List.mem_append.1 hq with h | h
            · exact hall.out q h
            · rw [List.mem_singleton] at h; rw [h]; exact hbig)
          have hbig' : ¬ (10000 : Int) ≤ p := by omega
          replace hp := hide hp
          replace hall := hide trivial
          go_wp2
          refine ⟨?_, ?_⟩
          · first
              | exact ⟨k + 1, by omega, by go_num, hall2, trivial⟩
              | ((repeat apply Exists.intro); exact ⟨⟨k + 1, by omega, by go_num, hall2, trivial⟩, rfl⟩)
          · first | (simp [intOf, lenV]; omega) | (simp [intOf]; omega) | (simp [intOf]; done)
        · have hfin : Hid (decide (chkW ws = 0) = false) := hide (right_bad hf (List.mem_of_getElem? hp) hbig)
          have hbig' : (10000 : Int) ≤ p := by omega
          replace hp := hide hp
          replace hall := hide trivial
          replace hbig := hide hbig
          go_wp2
          go_ret
          exact ⟨by rw [hfin.out]; rfl, hE2⟩
      · obtain rfl : k = m := by omega
        have hall2 : Hid (∀ p ∈ natsI (nums ws), p < 10000) := hide (by have h := hall.out; rw [hm.out, List.take_length] at h; exact h)
        replace hall := hide trivial
        by_cases h0 : n = 0
        · subst h0
          obtain rfl : ws = [] := List.eq_nil_of_length_eq_zero hn.out.symm
          go_wp2
          go_ret
          exact ⟨rfl, hE2⟩
        · obtain ⟨l, hl2⟩ : ∃ l, l = n - 1 := ⟨_, rfl⟩
          obtain ⟨b, off, rfl, ra⟩ := h.out.at_ (i := l) (by rw [← hn.out]; omega)
          obtain ⟨x, hx⟩ := get_some (xs := ws) (i := l) (by rw [← hn.out]; omega)
          have hlast : ws.getLast? = some x := by rw [List.getLast?_eq_getElem?, ← hn.out, ← hl2]; exact hx
          have hfin := hide (right_last hf hall2.out hlast)
          have u1 : IntKind.i64.wrap ((n : Int) - 1) = (l : Int) := by rw [IntWalk.i64_in _ (by omega)]; omega
          have h0' : ((n : Int) == 0) = false := by rw [beq_eq_false_iff_ne]; omega
          have hln : l < n := by omega
          have hln' : (l : Int) < (n : Int) := by omega
          have hl0 : 0 ≤ (l : Int) := by omega
          have hxc := (ra.ext hE2).word hx
          have hb := Nat.lt_of_lt_of_le ra.1 hE2.size
          clear hlast
          replace hx := hide hx
          replace ra := hide ra
          replace hl2 := hide hl2
          by_cases hx0 : x = 0
          · subst hx0
            go_wp2
            go_ret
            exact ⟨by rw [hfin.out]; rfl, hE2⟩
          · have hx0' : ((x : Int) == 0) = false := by rw [beq_eq_false_iff_ne]; omega
            have hfin2 : Hid (decide (chkW ws = 0) = true) := hide (by rw [hfin.out]; exact decide_eq_true hx0)
            clear hfin
            have hne : ((x : Int) != 0) = true := by rw [bne, hx0']; rfl
            replace hx0 := hide hx0
            go_wp2
            go_ret
            exact ⟨by rw [hfin2.out, ← hne]; rfl, hE2⟩
set_option maxHeartbeats 2000000 in
theorem refList_any (A : Option Addr) (n c : Nat) (ws : List Nat) (w : World) (h : Rd wE w.heap.size w A ws) (hn : n = ws.length) (hl : n ≤ 1000) (hf : Fit ws) :
    Calls Tryd.prog 11 #[.agg #[.slice A n c]] w fun e w' => ∃ v, e = .returned v ∧ Own intE 3 w.heap.size w' v (natsI (nums (ofW ws))) ∧ Ext w w' := by
  replace h := hide h
  replace hn := hide hn
  go_enter Tryd.func11, Tryd.ntmps11
  go_upto_region 1 with fail
  obtain ⟨w0, hw0⟩ : ∃ w0, w0 = w.alloc (.cells #[.slice A n c] 24) := ⟨_, rfl⟩
  rw [← hw0]
  have hE0 : Ext w w0 := by rw [hw0]; exact (Below.refl _ _).alloc (Nat.le_refl _) _
  have hb0 : w.heap.size < w0.heap.size := by rw [hw0]; simp
  have hc0 : w0.cell? ⟨w.heap.size, 0, none⟩ = some (.slice A n c) := by rw [hw0]; simp [World.cell?_alloc_new]
  clear hw0
  go_wp2_with fail
  refine (refRight_any A n c ws _ (h.out.ext hE0) hn.out hl hf).mono ?_
  rintro e w1 ⟨rfl, hE1⟩
  have hE2 : Ext w w1 := hE0.trans (hE1.mono hE0.size)
  have hc1 : w1.cell? ⟨w.heap.size, 0, none⟩ = some (.slice A n c) := by rw [hE1.cell hb0]; exact hc0
  have hb1 : w.heap.size < w1.heap.size := Nat.lt_of_lt_of_le hb0 hE1.size
  clear hE1 hE0 hc0 hb0
  by_cases hk : chkW ws = 0
  · have ho : Hid (ofW ws = ws) := hide (by unfold ofW; rw [if_pos hk])
    rw [decide_eq_true hk]
    replace hk := hide hk
    go_wp2_with fail
    refine (refNumbers_any A n c ws _ (h.out.ext hE2) hn.out hl hf).mono ?_
    rintro e w2 ⟨v, rfl, hO, hE3⟩
    replace hO := hide (hO.base_le hE2.size)
    have hE4 := hE2.trans (hE3.mono hE2.size)
    go_wp2
    go_ret
    refine ⟨_, rfl, ?_, hE4⟩
    rw [ho.out]
    exact hO.out
  · have ho : Hid (ofW ws = []) := hide (by unfold ofW; rw [if_neg hk])
    rw [decide_eq_false hk]
    replace hk := hide hk
    go_wp2
    go_ret
    refine ⟨_, rfl, ?_, hE2⟩
    rw [ho.out]
    exact Own.nil_
end Go.Proofs.YtkiklbngfocljaaDoor
