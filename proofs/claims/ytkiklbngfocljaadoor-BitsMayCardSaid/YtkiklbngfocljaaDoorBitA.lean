/- Sets of numbers: may, Check, of, the joins of words. -/
import Derived.Test.YtkiklbngfocljaaDoorBase
import Derived.Test.YtkiklbngfocljaaDoorOwn
import Derived.Test.YtkiklbngfocljaaDoorMix
import Derived.Test.YtkiklbngfocljaaDoorShelf04
import Derived.Test.YtkiklbngfocljaaDoorBitP
import Derived.Lib.ItoaNum
import Derived.Deep.Cut
import Derived.Deep.CutBlock
namespace Go.Proofs.YtkiklbngfocljaaDoor
open Go.RowKit

def wE : El Nat := ⟨fun n => [.int .u64 (n : Int)], 1, fun _ => rfl, by decide, fun x u hu => by simp at hu; subst hu; rfl⟩
theorem RdAt.word {w : World} {B b off : Nat} {xs : List Nat} (h : RdAt wE B w b off xs) {i p : Nat} (hx : xs[i]? = some p) : w.cell? ⟨b, off + i, none⟩ = some (.int .u64 (p : Int)) := by
  have := h.2 i p hx 0 (.int .u64 (p : Int)) rfl
  simpa [wE] using this
theorem RdAt.word0 {w : World} {B b off : Nat} {xs : List Nat} (h : RdAt wE B w b off xs) {p : Nat} (hx : xs[0]? = some p) : w.cell? ⟨b, off, none⟩ = some (.int .u64 (p : Int)) := h.word hx
theorem tyW : Ty Tryd.prog wE 22 43 8 := ty_of (z := .int .u64 0) (sz := 1) (by kernel_rfl) (by kernel_rfl) rfl rfl (by decide)
theorem tyInt : Ty Tryd.prog intE 25 3 8 := ty_of (z := .int .i64 0) (sz := 1) (by kernel_rfl) (by kernel_rfl) rfl rfl (by decide)
theorem wE_row : ∀ xs : List Nat, wE.row xs = xs.map fun (n : Nat) => Value.int .u64 (n : Int)
  | [] => rfl
  | x :: xs => by
    have := wE_row xs
    simp [El.row, wE] at this ⊢
    exact this
theorem intE_row : ∀ xs : List Int, intE.row xs = xs.map (Value.int .i64)
  | [] => rfl
  | x :: xs => by
    have := intE_row xs
    simp [El.row, intE] at this ⊢
    exact this
theorem drewN {B : Nat} {a w : World} (h : Below B a w) (n : Nat) : Below B a (w.drewN n) := h.trans ⟨rfl, rfl, rfl, Nat.le_refl _, fun _ _ => rfl⟩
/-- may a number be in a set? -/
def mayB (n : Int) : Bool := decide (0 ≤ n) && decide (n < 10000)
theorem mayB_in {n : Int} (h0 : 0 ≤ n) (h1 : n < 10000) : mayB n = true := by unfold mayB; rw [decide_eq_true h0, decide_eq_true h1]; rfl
theorem mayB_of {n : Int} (h : mayB n = true) : 0 ≤ n ∧ n < 10000 := by unfold mayB at h; simpa using h
theorem may_any (n : Int) (w : World) : Calls Tryd.prog 42 #[.int .i64 n] w fun e w' => e = .returned (.bool (mayB n)) ∧ w' = w := by
  by_cases h0 : 0 ≤ n
  · by_cases h1 : n < 10000
    · have hm := hide (mayB_in h0 h1)
      go_enter Tryd.func42, Tryd.ntmps42
      go_wp2
      go_ret
      exact ⟨by rw [hm.out]; rfl, rfl⟩
    · have hm : Hid (mayB n = false) := hide (Bool.eq_false_iff.2 fun h => h1 (mayB_of h).2)
      go_enter Tryd.func42, Tryd.ntmps42
      go_wp2
      go_ret
      exact ⟨by rw [hm.out]; rfl, rfl⟩
  · have hm : Hid (mayB n = false) := hide (Bool.eq_false_iff.2 fun h => h0 (mayB_of h).1)
    go_enter Tryd.func42, Tryd.ntmps42
    go_wp2
    go_ret
    exact ⟨by rw [hm.out]; rfl, rfl⟩
theorem lawMay_any (n : Int) (w : World) : Calls Tryd.prog 14 #[.int .i64 n] w fun e w' => e = .returned (.bool (mayB n)) ∧ w' = w := by
  by_cases h0 : 0 ≤ n
  · by_cases h1 : n < 10000
    · have hm := hide (mayB_in h0 h1)
      go_enter Tryd.func14, Tryd.ntmps14
      go_wp2
      go_ret
      exact ⟨by rw [hm.out]; rfl, rfl⟩
    · have hm : Hid (mayB n = false) := hide (Bool.eq_false_iff.2 fun h => h1 (mayB_of h).2)
      go_enter Tryd.func14, Tryd.ntmps14
      go_wp2
      go_ret
      exact ⟨by rw [hm.out]; rfl, rfl⟩
  · have hm : Hid (mayB n = false) := hide (Bool.eq_false_iff.2 fun h => h0 (mayB_of h).1)
    go_enter Tryd.func14, Tryd.ntmps14
    go_wp2
    go_ret
    exact ⟨by rw [hm.out]; rfl, rfl⟩
/-- may these words be a set? -/
def badW (ws : List Nat) (x : Nat) : Bool := decide (x = 0) || decide (157 < ws.length) || decide (10000 < (ws.length - 1) * 64 + Lib.bitLen x)
def chkW (ws : List Nat) : Int := match ws.getLast? with
  | none => 0
  | some x => if badW ws x = true then 140 else 0
def ofW (ws : List Nat) : List Nat := if chkW ws = 0 then ws else []
theorem chkW_or (ws : List Nat) : chkW ws = 0 ∨ chkW ws = 140 := by
  unfold chkW
  split
  · exact .inl rfl
  · split
    · exact .inr rfl
    · exact .inl rfl
theorem chkW_nil : chkW [] = 0 := rfl
theorem chkW_last {ws : List Nat} {x : Nat} (h : ws.getLast? = some x) : chkW ws = if badW ws x = true then 140 else 0 := by unfold chkW; rw [h]
set_option maxHeartbeats 1000000 in
theorem check_any (A : Option Addr) (n c : Nat) (ws : List Nat) (w : World) (h : Rd wE w.heap.size w A ws) (hn : n = ws.length) (hl : n ≤ 1000000) (hf : Fit ws) :
    Calls Tryd.prog 22 #[.agg #[.slice A n c]] w fun e w' => e = .returned (.int .i64 (chkW ws)) ∧ Ext w w' := by
  by_cases h0 : n = 0
  · subst h0
    have hx : ws = [] := List.eq_nil_of_length_eq_zero hn.symm
    subst hx
    clear hn h hf
    go_enter Tryd.func22, Tryd.ntmps22
    go_upto_region 1 with fail
    obtain ⟨w0, hw0⟩ : ∃ w0, w0 = w.alloc (.cells #[.slice A 0 c] 24) := ⟨_, rfl⟩
    rw [← hw0]
    have hE0 : Ext w w0 := by rw [hw0]; exact (Below.refl _ _).alloc (Nat.le_refl _) _
    have hb0 : w.heap.size < w0.heap.size := by rw [hw0]; simp
    have hc0 : w0.cell? ⟨w.heap.size, 0, none⟩ = some (.slice A 0 c) := by rw [hw0]; simp [World.cell?_alloc_new]
    clear hw0
    go_wp2
    go_ret
    exact ⟨rfl, hE0⟩
  · obtain ⟨m, hm⟩ : ∃ m, m = n - 1 := ⟨_, rfl⟩
    obtain ⟨b, off, rfl, ra⟩ := h.at_ (i := m) (by rw [← hn]; omega)
    obtain ⟨x, hx⟩ := get_some (xs := ws) (i := m) (by rw [← hn]; omega)
    have hbw := ra.1
    have hlast : ws.getLast? = some x := by rw [List.getLast?_eq_getElem?, ← hn, ← hm]; exact hx
    have hx64 := hf x (List.mem_of_getElem? hx)
    have hk := chkW_last hlast
    have hbl : Lib.bitLen x ≤ 64 := Lib.bitLen_le x 64 (by omega) (by omega)
    have u1 : IntKind.i64.wrap ((n : Int) - 1) = (m : Int) := by rw [IntWalk.i64_in _ (by omega)]; omega
    have u2 : IntKind.i64.wrap ((m : Int) * 64) = ((m * 64 : Nat) : Int) := by rw [IntWalk.i64_in _ (by omega)]; omega
    have u3 : IntKind.i64.wrap (((m * 64 : Nat) : Int) + ((Lib.bitLen x : Nat) : Int)) = ((m * 64 + Lib.bitLen x : Nat) : Int) := by rw [IntWalk.i64_in _ (by omega)]; omega
    have h0' : ((n : Int) == 0) = false := by rw [beq_eq_false_iff_ne]; omega
    have hmn : m < n := by omega
    have hmn' : (m : Int) < (n : Int) := by omega
    have hm0 : 0 ≤ (m : Int) := by omega
    have hbad : badW ws x = (decide (x = 0) || decide (157 < n) || decide (10000 < m * 64 + Lib.bitLen x)) := by unfold badW; rw [← hn, ← hm]
    have hra := hide ra
    replace hx := hide hx
    replace hk := hide hk
    replace hbad := hide hbad
    replace hn := hide hn
    replace hm := hide hm
    clear h ra hf hlast
    go_enter Tryd.func22, Tryd.ntmps22
    go_upto_region 1 with fail
    obtain ⟨w0, hw0⟩ : ∃ w0, w0 = w.alloc (.cells #[.slice (some ⟨b, off, none⟩) n c] 24) := ⟨_, rfl⟩
    rw [← hw0]
    have hE0 : Ext w w0 := by rw [hw0]; exact (Below.refl _ _).alloc (Nat.le_refl _) _
    have hb0 : w.heap.size < w0.heap.size := by rw [hw0]; simp
    have hc0 : w0.cell? ⟨w.heap.size, 0, none⟩ = some (.slice (some ⟨b, off, none⟩) n c) := by rw [hw0]; simp [World.cell?_alloc_new]
    clear hw0
    have hxc : w0.cell? ⟨b, off + m, none⟩ = some (.int .u64 (x : Int)) := (hra.out.ext hE0).word hx.out
    have hbw0 : b < w0.heap.size := Nat.lt_of_lt_of_le hbw hE0.size
    by_cases hx0 : x = 0
    · have hk2 : Hid (chkW ws = 140) := hide (by rw [hk.out, if_pos (by rw [hbad.out, decide_eq_true hx0]; rfl)])
      clear hk hbad u2 u3 hbl
      subst hx0
      go_wp2
      go_ret
      exact ⟨by rw [hk2.out]; rfl, hE0⟩
    · have hx0' : ((x : Int) == 0) = false := by rw [beq_eq_false_iff_ne]; omega
      by_cases h157 : 157 < n
      · have h157' : (157 : Int) < (n : Int) := by omega
        have hk2 : Hid (chkW ws = 140) := hide (by rw [hk.out, if_pos (by rw [hbad.out, decide_eq_true h157]; simp)])
        clear hk hbad u2 u3 hbl
        replace hx0 := hide hx0
        go_wp2
        go_ret
        exact ⟨by rw [hk2.out]; rfl, hE0⟩
      · have h157' : (n : Int) ≤ 157 := by omega
        have hk2 : Hid (chkW ws = if decide (10000 < m * 64 + Lib.bitLen x) = true then 140 else 0) := hide (by rw [hk.out, hbad.out, decide_eq_false hx0, decide_eq_false h157]; rfl)
        clear hk hbad
        replace hx0 := hide hx0
        replace h157 := hide h157
        go_wp2_with fail
        refine (Tryd.bits_Len64 (x : Int) _ (by omega) (by omega)).mono ?_
        rintro e w1 ⟨rfl, rfl⟩
        rw [show ((x : Int)).toNat = x from rfl]
        generalize Lib.bitLen x = y at *
        by_cases hbig : 10000 < m * 64 + y
        · have hbig' : (10000 : Int) < (m : Int) * 64 + (y : Int) := by omega
          have hk3 : Hid (chkW ws = 140) := hide (by rw [hk2.out, decide_eq_true hbig]; rfl)
          clear hk2
          clear u2 u3
          replace hbig := hide hbig
          go_wp2
          go_ret
          exact ⟨by rw [hk3.out]; rfl, hE0⟩
        · have hbig' : (m : Int) * 64 + (y : Int) ≤ 10000 := by omega
          have hk3 : Hid (chkW ws = 0) := hide (by rw [hk2.out, decide_eq_false hbig]; rfl)
          clear hk2
          clear u2 u3
          replace hbig := hide hbig
          go_wp2
          go_ret
          exact ⟨by rw [hk3.out]; rfl, hE0⟩
theorem of_full (A : Option Addr) (n c : Nat) (ws : List Nat) (w : World) (h : Rd wE w.heap.size w A ws) (hn : n = ws.length) (hl : n ≤ 1000000) (hf : Fit ws) :
    Calls Tryd.prog 41 #[.agg #[.slice A n c]] w fun e w' => ∃ A' c', e = .returned (.slice A' (ofW ws).length c') ∧ (A' = A ∨ A' = none) ∧ Rd wE w'.heap.size w' A' (ofW ws) ∧ Ext w w' ∧ (n ≤ c → (ofW ws).length ≤ c') := by
  replace h := hide h
  replace hn := hide hn
  go_enter Tryd.func41, Tryd.ntmps41
  go_upto_region 1 with fail
  obtain ⟨w0, hw0⟩ : ∃ w0, w0 = w.alloc (.cells #[.slice A n c] 24) := ⟨_, rfl⟩
  rw [← hw0]
  have hE0 : Ext w w0 := by rw [hw0]; exact (Below.refl _ _).alloc (Nat.le_refl _) _
  have hb0 : w.heap.size < w0.heap.size := by rw [hw0]; simp
  have hc0 : w0.cell? ⟨w.heap.size, 0, none⟩ = some (.slice A n c) := by rw [hw0]; simp [World.cell?_alloc_new]
  clear hw0
  go_wp2_with fail
  refine (check_any A n c ws _ (h.out.ext hE0) hn.out hl hf).mono ?_
  rintro e w1 ⟨rfl, hE1⟩
  have hc1 := ((bcell hE1).1 _ 0 hb0).trans hc0
  have hb1 := Nat.lt_of_lt_of_le hb0 hE1.size
  have hB := hE0.trans (hE1.mono hE0.size)
  rcases chkW_or ws with hk | hk
  · have ho : Hid (ofW ws = ws) := hide (by unfold ofW; rw [if_pos hk])
    rw [hk]
    replace hk := hide hk
    go_wp2
    go_ret
    exact ⟨_, _, by rw [ho.out, ← hn.out]; rfl, .inl rfl, by rw [ho.out]; exact h.out.ext hB, hB, fun hc => by rw [ho.out, ← hn.out]; exact hc⟩
  · have ho : Hid (ofW ws = []) := hide (by unfold ofW; rw [if_neg (by rw [hk]; decide)])
    rw [hk]
    replace hk := hide hk
    go_wp2
    go_ret
    exact ⟨none, 0, by rw [ho.out]; rfl, .inr rfl, by rw [ho.out]; exact .inl rfl, hB, fun _ => by rw [ho.out]; exact Nat.le_refl _⟩
theorem of_any (A : Option Addr) (n c : Nat) (ws : List Nat) (w : World) (h : Rd wE w.heap.size w A ws) (hn : n = ws.length) (hl : n ≤ 1000000) (hf : Fit ws) :
    Calls Tryd.prog 41 #[.agg #[.slice A n c]] w fun e w' => ∃ A' c', e = .returned (.slice A' (ofW ws).length c') ∧ (A' = A ∨ A' = none) ∧ Rd wE w'.heap.size w' A' (ofW ws) ∧ Ext w w' :=
  (of_full A n c ws w h hn hl hf).mono fun _ _ ⟨A', c', h1, h2, h3, h4, _⟩ => ⟨A', c', h1, h2, h3, h4⟩
def minusN (x y : Nat) : Nat := x &&& (18446744073709551615 - y)
theorem or_any (x y : Nat) (hx : x < 18446744073709551616) (hy : y < 18446744073709551616) (w : World) : Calls Tryd.prog 45 #[.int .u64 x, .int .u64 y] w fun e w' => e = .returned (.int .u64 ((x ||| y : Nat) : Int)) ∧ w' = w := by
  have u := bits_or_u64_nat x y hx hy
  go_enter Tryd.func45, Tryd.ntmps45
  go_wp2
  go_ret
  exact ⟨rfl, rfl⟩
theorem and_any (x y : Nat) (hx : x < 18446744073709551616) (hy : y < 18446744073709551616) (w : World) : Calls Tryd.prog 52 #[.int .u64 x, .int .u64 y] w fun e w' => e = .returned (.int .u64 ((x &&& y : Nat) : Int)) ∧ w' = w := by
  have u := bits_and_u64_nat x y hx hy
  go_enter Tryd.func52, Tryd.ntmps52
  go_wp2
  go_ret
  exact ⟨rfl, rfl⟩
theorem minus_any (x y : Nat) (hx : x < 18446744073709551616) (hy : y < 18446744073709551616) (w : World) : Calls Tryd.prog 46 #[.int .u64 x, .int .u64 y] w fun e w' => e = .returned (.int .u64 ((minusN x y : Nat) : Int)) ∧ w' = w := by
  have u := u64_andNot_nat x y hx hy
  go_enter Tryd.func46, Tryd.ntmps46
  go_wp2
  go_ret
  exact ⟨rfl, rfl⟩
theorem enter_or (args : Array Value) (w : World) : (callFunc 45 args).run Tryd.prog w = .ok (.enter 45 args) w := enters_of Tryd.func45 (by kernel_rfl) rfl args w
theorem enter_and (args : Array Value) (w : World) : (callFunc 52 args).run Tryd.prog w = .ok (.enter 52 args) w := enters_of Tryd.func52 (by kernel_rfl) rfl args w
theorem enter_minus (args : Array Value) (w : World) : (callFunc 46 args).run Tryd.prog w = .ok (.enter 46 args) w := enters_of Tryd.func46 (by kernel_rfl) rfl args w
end Go.Proofs.YtkiklbngfocljaaDoor
