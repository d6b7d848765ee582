/- Levels: the functions that are handed on, Join, Meet, Below; the stage wakes. -/
import Derived.Test.YtbmcbbcgambflaaDoorLevB
namespace Go.Proofs.YtbmcbbcgambflaaDoor
open Go.RowKit

def dMax (x y : Int) : Int := max x y
def dMin (x y : Int) : Int := min x y
def dSub (x y : Int) : Int := wrap64 (y - x)
theorem max_any (x y : Int) (w : World) : Calls Tryd.prog 34 #[.int .i64 x, .int .i64 y] w fun e w' => e = .returned (.int .i64 (dMax x y)) ∧ w' = w := by
  unfold dMax
  go_enter Tryd.func34, Tryd.ntmps34
  go_wp2
  all_goals
    go_ret
    exact ⟨ret_int (by omega), rfl⟩
theorem min_any (x y : Int) (w : World) : Calls Tryd.prog 35 #[.int .i64 x, .int .i64 y] w fun e w' => e = .returned (.int .i64 (dMin x y)) ∧ w' = w := by
  unfold dMin
  go_enter Tryd.func35, Tryd.ntmps35
  go_wp2
  all_goals
    go_ret
    exact ⟨ret_int (by omega), rfl⟩
theorem sub_any (x y : Int) (w : World) : Calls Tryd.prog 36 #[.int .i64 x, .int .i64 y] w fun e w' => e = .returned (.int .i64 (dSub x y)) ∧ w' = w := by
  unfold dSub
  go_enter Tryd.func36, Tryd.ntmps36
  go_wp2
  go_ret
  exact ⟨rfl, rfl⟩
theorem enter_max (args : Array Value) (w : World) : (callFunc 34 args).run Tryd.prog w = .ok (.enter 34 args) w := enters_of Tryd.func34 (by kernel_rfl) rfl args w
theorem enter_min (args : Array Value) (w : World) : (callFunc 35 args).run Tryd.prog w = .ok (.enter 35 args) w := enters_of Tryd.func35 (by kernel_rfl) rfl args w
theorem enter_sub (args : Array Value) (w : World) : (callFunc 36 args).run Tryd.prog w = .ok (.enter 36 args) w := enters_of Tryd.func36 (by kernel_rfl) rfl args w
section
variable (A1 A2 : Option Addr) (n1 c1 n2 c2 : Nat) (xs ys : List Int) (w : World) (h1 : Rd intE w.heap.size w A1 xs) (h2 : Rd intE w.heap.size w A2 ys) (hn1 : n1 = xs.length) (hn2 : n2 = ys.length) (hl1 : n1 ≤ 1000000) (hl2 : n2 ≤ 1000000)
include h1 h2 hn1 hn2 hl1 hl2
theorem join_any : Calls Tryd.prog 20 #[.slice A1 n1 c1, .slice A2 n2 c2] w fun e w' => ∃ v, e = .returned (.tuple #[v, .int .i64 (eachE xs ys)]) ∧ Own intE 3 w.heap.size w' v (eachL dMax xs ys) ∧ Ext w w' := by
  have hE := hide (each_any _ dMax max_any enter_max A1 A2 n1 c1 n2 c2 xs ys w h1 h2 hn1 hn2 hl1 hl2)
  clear hn1 hn2
  replace h1 := hide h1
  replace h2 := hide h2
  go_enter Tryd.func20, Tryd.ntmps20
  go_wp2_with fail
  refine hE.out.mono ?_
  rintro e w1 ⟨v, rfl, hO, hB⟩
  replace hO := hide hO
  go_wp2
  go_ret2
  exact ⟨v, rfl, hO.out, hB⟩
theorem meet_any : Calls Tryd.prog 21 #[.slice A1 n1 c1, .slice A2 n2 c2] w fun e w' => ∃ v, e = .returned (.tuple #[v, .int .i64 (eachE xs ys)]) ∧ Own intE 3 w.heap.size w' v (eachL dMin xs ys) ∧ Ext w w' := by
  have hE := hide (each_any _ dMin min_any enter_min A1 A2 n1 c1 n2 c2 xs ys w h1 h2 hn1 hn2 hl1 hl2)
  clear hn1 hn2
  replace h1 := hide h1
  replace h2 := hide h2
  go_enter Tryd.func21, Tryd.ntmps21
  go_wp2_with fail
  refine hE.out.mono ?_
  rintro e w1 ⟨v, rfl, hO, hB⟩
  replace hO := hide hO
  go_wp2
  go_ret2
  exact ⟨v, rfl, hO.out, hB⟩
end
theorem neg_any (n : Int) (w : World) : Calls Tryd.prog 38 #[.int .i64 n] w fun e w' => e = .returned (.bool (decide (n < 0))) ∧ w' = w := by
  go_enter Tryd.func38, Tryd.ntmps38
  go_wp2
  go_ret
  exact ⟨rfl, rfl⟩
theorem enter_neg (args : Array Value) (w : World) : (callFunc 38 args).run Tryd.prog w = .ok (.enter 38 args) w := enters_of Tryd.func38 (by kernel_rfl) rfl args w
def anyNeg (xs : List Int) : Bool := xs.any fun n => decide (n < 0)
theorem indexNeg_any (A : Option Addr) (n c : Nat) (xs : List Int) (w : World) (h : Rd intE w.heap.size w A xs) (hn : n = xs.length) (hl : n ≤ 1000000) :
    Calls Tryd.prog 44 #[.slice A n c, .func (.func 38) #[] #[]] w fun e w' => ∃ i : Int, e = .returned (.int .i64 i) ∧ decide (0 ≤ i) = anyNeg xs ∧ w' = w := by
  replace h := hide h
  replace hn := hide hn
  go_enter Tryd.func44, Tryd.ntmps44
  go_wp2
  go_loopw [8] (fun i wr => ∃ k : Nat, k ≤ n ∧ i = .int .i64 k ∧ Hid (∀ x ∈ xs.take k, 0 ≤ x) ∧ wr = w) (fun i _ => n - (intOf i).toNat)
  case atStart => exact ⟨0, Nat.zero_le _, rfl, hide (by simp), rfl⟩
  case round =>
    obtain ⟨k, hk, rfl, hall, rfl⟩ := hrel
    by_cases hlt : k < n
    · obtain ⟨b, off, rfl, hra⟩ := h.out.at_ (i := k) (by rw [← hn.out]; exact hlt)
      have hb1 := hra.1
      obtain ⟨p, hp⟩ := get_some (xs := xs) (i := k) (by rw [← hn.out]; exact hlt)
      have hp1 := hra.int hp
      replace hra := hide hra
      by_cases hneg : p < 0
      · have hany : anyNeg xs = true := by
          unfold anyNeg
          rw [List.any_eq_true]
          exact ⟨p, List.mem_of_getElem? hp, by simpa using hneg⟩
        replace hp := hide hp
        replace hany := hide hany
        go_wp2_with fail
        refine (neg_any p _).mono ?_
        rintro e w1 ⟨rfl, rfl⟩
        rw [decide_eq_true hneg]
        go_wp2
        go_ret
        exact ⟨_, rfl, by rw [hany.out]; simp, rfl⟩
      · have hall' : Hid (∀ x ∈ xs.take (k + 1), 0 ≤ x) := hide (by
          intro x hx
          rw [List.take_add_one, hp] at hx
          rcases List.mem_append.1 hx with h1 | h1
          · exact hall.out x h1
          · simp at h1
            rw [h1]
            omega)
        replace hp := hide hp
        go_wp2_with fail
        refine (neg_any p _).mono ?_
        rintro e w1 ⟨rfl, rfl⟩
        rw [decide_eq_false (by omega)]
        go_wp2
        refine ⟨?_, ?_⟩
        · first
            | exact ⟨k + 1, by omega, by go_num, hall', trivial⟩
            | ((repeat apply Exists.intro); exact ⟨⟨k + 1, by omega, by go_num, hall', trivial⟩, rfl⟩)
        · first | (simp [intOf, lenV]; omega) | (simp [intOf]; omega) | (simp [intOf]; done)
    · obtain rfl : k = n := by omega
      have hany : anyNeg xs = false := by
        unfold anyNeg
        rw [List.any_eq_false]
        intro x hx
        have := hall.out x (by rw [hn.out, List.take_length]; exact hx)
        simpa using this
      replace hany := hide hany
      go_wp2
      go_ret
      exact ⟨_, rfl, by rw [hany.out]; decide, rfl⟩
theorem hasNeg_any (A : Option Addr) (n c : Nat) (xs : List Int) (w : World) (h : Rd intE w.heap.size w A xs) (hn : n = xs.length) (hl : n ≤ 1000000) :
    Calls Tryd.prog 37 #[.slice A n c, .func (.func 38) #[] #[]] w fun e w' => e = .returned (.bool (anyNeg xs)) ∧ w' = w := by
  replace h := hide h
  replace hn := hide hn
  go_enter Tryd.func37, Tryd.ntmps37
  go_wp2_with fail
  refine (indexNeg_any A n c xs _ h.out hn.out hl).mono ?_
  rintro e w1 ⟨i, rfl, hi, rfl⟩
  replace hi := hide hi
  go_wp2
  go_ret
  exact ⟨by rw [← hi.out]; rfl, rfl⟩
/-- is a row below another one, place by place? -/
def isBelow (xs ys : List Int) : Bool := if eachE xs ys = 0 then !anyNeg (eachL dSub xs ys) else false
theorem eachL_length (D : Int → Int → Int) (xs ys : List Int) : (eachL D xs ys).length ≤ xs.length := by
  unfold eachL
  split
  · rename_i h
    rw [two_length D xs ys h.2]
    exact Nat.le_refl _
  · exact Nat.zero_le _
set_option maxHeartbeats 1000000 in
theorem below_any (A1 A2 : Option Addr) (n1 c1 n2 c2 : Nat) (xs ys : List Int) (w : World) (h1 : Rd intE w.heap.size w A1 xs) (h2 : Rd intE w.heap.size w A2 ys) (hn1 : n1 = xs.length) (hn2 : n2 = ys.length) (hl1 : n1 ≤ 1000000) (hl2 : n2 ≤ 1000000) :
    Calls Tryd.prog 23 #[.slice A1 n1 c1, .slice A2 n2 c2] w fun e w' => e = .returned (.tuple #[.bool (isBelow xs ys), .int .i64 (eachE xs ys)]) ∧ Ext w w' := by
  have hE := hide (each_any _ dSub sub_any enter_sub A1 A2 n1 c1 n2 c2 xs ys w h1 h2 hn1 hn2 hl1 hl2)
  replace hn1 := hide hn1
  replace hn2 := hide hn2
  replace h1 := hide h1
  replace h2 := hide h2
  go_enter Tryd.func23, Tryd.ntmps23
  go_wp2_with fail
  refine hE.out.mono ?_
  rintro e w1 ⟨v, rfl, hO, hB⟩
  clear hE
  have hel := eachL_length dSub xs ys
  by_cases he : eachE xs ys = 0
  · have hib : isBelow xs ys = !anyNeg (eachL dSub xs ys) := by unfold isBelow; rw [if_pos he]
    obtain ⟨A, c, rfl, hrd, -, -⟩ := hO.rd
    generalize eachL dSub xs ys = ls at *
    obtain ⟨q, hq⟩ : ∃ q, q = ls.length := ⟨_, rfl⟩
    rw [← hq] at hO hel ⊢
    have hq6 : q ≤ 1000000 := by have := hn1.out; omega
    rw [he]
    replace he := hide he
    replace hib := hide hib
    replace hq := hide hq
    replace hrd := hide hrd
    clear hO hel
    go_wp2_with fail
    refine (hasNeg_any A q c ls _ hrd.out hq.out hq6).mono ?_
    rintro e w2 ⟨rfl, rfl⟩
    go_wp2
    go_ret2
    exact ⟨by rw [hib.out, he.out]; rfl, hB⟩
  · have hib : isBelow xs ys = false := by unfold isBelow; rw [if_neg he]
    obtain ⟨ev, hev⟩ : ∃ ev, ev = eachE xs ys := ⟨_, rfl⟩
    rw [← hev] at he ⊢
    have he' : (ev == 0) = false := beq_eq_false_iff_ne.2 he
    replace hev := hide hev
    replace hib := hide hib
    replace hO := hide hO
    clear hel
    go_wp2
    go_ret2
    exact ⟨by rw [hib.out, ← hev.out]; rfl, hB⟩
end Go.Proofs.YtbmcbbcgambflaaDoor
