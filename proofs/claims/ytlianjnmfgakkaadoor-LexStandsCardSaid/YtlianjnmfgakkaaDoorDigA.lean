/- Contracts of the parts of whole numbers: how far a number is from 0, digits, a part with a digit more, a part's number, products. -/
import Derived.Test.YtlianjnmfgakkaaDoorRows
import Derived.Test.YtlianjnmfgakkaaDoorBase
import Derived.Shelf.Bits.Mul64
import Derived.Laws.Externs
namespace Go.Proofs.YtlianjnmfgakkaaDoor
open Go.RowKit

theorem digit_any (c : Int) (w : World) :
    Calls Tryd.prog 67 #[.int .i32 c] w fun e w' => e = .returned (.bool (decide (48 ≤ c) && decide (c ≤ 57))) ∧ w' = w := by
  go_enter Tryd.func67, Tryd.ntmps67
  by_cases h : 48 ≤ c
  · go_wp2
    go_ret
    exact ⟨by simp [h], rfl⟩
  · have h' : c < 48 := by omega
    go_wp2
    go_ret
    exact ⟨ret_bool (by simp; omega), rfl⟩

set_option maxHeartbeats 1000000 in
theorem mul64_any (x y : Nat) (hx : x < 18446744073709551616) (hy : y < 18446744073709551616) (w : World) :
    Calls Tryd.prog 68 #[.int .u64 x, .int .u64 y] w fun e w' => e = .returned (.tuple #[.int .u64 ((x * y / 18446744073709551616 : Nat) : Int), .int .u64 ((x * y % 18446744073709551616 : Nat) : Int)]) ∧ w' = w := by
  obtain ⟨bd, bt, bw, hhi⟩ := Lib.mul64_hi x y hx hy
  have ba := Lib.half_mul_le (a := x / 4294967296) (b := y / 4294967296) (by omega) (by omega)
  have bb := Lib.half_mul_le (a := x / 4294967296) (b := y % 4294967296) (by omega) (by omega)
  have bc := Lib.half_mul_le (a := x % 4294967296) (b := y / 4294967296) (by omega) (by omega)
  have ba' : x / 4294967296 * (y / 4294967296) < 18446744073709551616 := by omega
  have bb' : x / 4294967296 * (y % 4294967296) < 18446744073709551616 := by omega
  have bc' : x % 4294967296 * (y / 4294967296) < 18446744073709551616 := by omega
  have bh1 : x / 4294967296 * (y / 4294967296) + (x / 4294967296 * (y % 4294967296) + x % 4294967296 * (y % 4294967296) / 4294967296) / 4294967296 < 18446744073709551616 := by omega
  have bh : x / 4294967296 * (y / 4294967296) + (x / 4294967296 * (y % 4294967296) + x % 4294967296 * (y % 4294967296) / 4294967296) / 4294967296 + ((x / 4294967296 * (y % 4294967296) + x % 4294967296 * (y % 4294967296) / 4294967296) % 4294967296 + x % 4294967296 * (y / 4294967296)) / 4294967296 < 18446744073709551616 := by omega
  go_enter Tryd.func68, Tryd.ntmps68
  go_wp2
  simp only [Mul64.maskN x hx, Mul64.maskN y hy, Mul64.divN, Mul64.mulN, Mul64.addN, Mul64.wrapN _ bd, Mul64.wrapN _ bb', Mul64.wrapN _ bt, Mul64.maskN _ bt, Mul64.wrapN _ bc', Mul64.wrapN _ bw, Mul64.wrapN _ ba', Mul64.wrapN _ bh1, Mul64.wrapN _ bh, Mul64.wrapM (x * y)]
  rw [hhi]
  go_ret2
  exact ⟨rfl, rfl⟩

theorem add64_run (x y : Int) (hx : 0 ≤ x) (hy : 0 ≤ y) (w : World) :
    (callFunc 69 #[.int .u64 x, .int .u64 y, .int .u64 0]).run Tryd.prog w = .ok (.value (.tuple #[.int .u64 ((x + y) % 18446744073709551616), .int .u64 ((x + y) / 18446744073709551616)])) w := by
  rw [run_callFunc_extern Tryd.func69 (by kernel_rfl) (by kernel_rfl) (by kernel_rfl) (e := add64Entry) (by kernel_rfl), run_add64 x y 0 (by omega) (by omega) (by omega) (by omega)]
  simp only [Result.andThen, Int.add_zero]

theorem results_cell_one {fn : Func} {p : Tmp} {ty : TypeId} (h : fn.results = #[.cell p ty]) (tmps : Array Value) (P : Program) (w : World) :
    (results fn tmps).run P w = ((asAddr (tmps.getD p undef)).run P w).andThen fun a w₁ => ((loadVar ty a).run P w₁) := by
  simp only [results, h]
  simp [Sem.run_bind, Result.andThen]

theorem agg3 {a a' : Int} {b b' c c' : Bool} (h1 : a = a') (h2 : b = b') (h3 : c = c') : Value.agg #[.int .u64 a, .bool b, .bool c] = .agg #[.int .u64 a', .bool b', .bool c'] := by rw [h1, h2, h3]
theorem agg2 {a a' b b' : Int} (h1 : a = a') (h2 : b = b') : Value.agg #[.int .u64 a, .int .i64 b] = .agg #[.int .u64 a', .int .i64 b'] := by rw [h1, h2]
theorem tup2 {a a' : Int} {b b' : Bool} (h1 : a = a') (h2 : b = b') : Ending.returned (.tuple #[.int .i64 a, .bool b]) = .returned (.tuple #[.int .i64 a', .bool b']) := by rw [h1, h2]

/-- a part that goes on -/
def partV (far : Nat) (below out : Bool) : Value := .agg #[.int .u64 far, .bool below, .bool out]

set_option maxHeartbeats 1000000 in
theorem with_any (far : Nat) (below out : Bool) (c : Nat) (hf : far < 18446744073709551616) (h1 : 48 ≤ c) (h2 : c ≤ 57) (w : World) :
    Calls Tryd.prog 55 #[partV far below out, .int .i32 c] w fun e w' => e = .returned (partV ((far * 10 + (c - 48)) % 18446744073709551616) below (out || decide (18446744073709551616 ≤ far * 10 + (c - 48)))) ∧ Ext w w' := by
  unfold partV
  go_enter Tryd.func55, Tryd.ntmps55
  go_wp2_with fail
  refine (mul64_any far 10 hf (by omega) _).mono ?_
  rintro e w1 ⟨rfl, rfl⟩
  have hlo : (0 : Int) ≤ ((far * 10 % 18446744073709551616 : Nat) : Int) := by omega
  have hd : (0 : Int) ≤ (c : Int) - 48 := by omega
  have hw1 : IntKind.i32.wrap ((c : Int) - 48) = (c : Int) - 48 := by rw [IntKind.wrap_i32]; omega
  have hw2 : IntKind.u64.wrap ((c : Int) - 48) = (c : Int) - 48 := by rw [IntKind.wrap_u64]; omega
  have hq : ((far * 10 / 18446744073709551616 : Nat) : Int) ≤ 10 := by omega
  obtain ⟨hi, hhi⟩ : ∃ hi : Nat, hi = far * 10 / 18446744073709551616 := ⟨_, rfl⟩
  obtain ⟨lo, hlo'⟩ : ∃ lo : Nat, lo = far * 10 % 18446744073709551616 := ⟨_, rfl⟩
  rw [← hhi, ← hlo'] 
  rw [← hhi] at hq
  rw [← hlo'] at hlo
  replace hhi := hide hhi
  replace hlo' := hide hlo'
  go_wp2_with (simp only [add64_run _ _ hlo hd])
  all_goals
    refine bodyPost_ret (v := partV ((far * 10 + (c - 48)) % 18446744073709551616) below (out || decide (18446744073709551616 ≤ far * 10 + (c - 48)))) ?_ rfl ⟨rfl, ?_⟩
    · rw [results_cell_one rfl]
      go_simp
      have e1 := hhi.out
      have e2 := hlo'.out
      refine agg3 ?_ rfl ?_
      · omega
      · first
          | rfl
          | (have e3 : IntKind.u64.wrap ((hi : Int) + ((lo : Int) + ((c : Int) - 48)) / 18446744073709551616) = (hi : Int) + ((lo : Int) + ((c : Int) - 48)) / 18446744073709551616 := by
               rw [IntKind.wrap_u64]
               apply Int.emod_eq_of_lt <;> omega
             rw [e3]
             apply decide_eq_decide.2
             omega)
    · repeat' (first | exact Below.refl _ _ | refine Below.alloc ?_ (by simp <;> omega) _ | refine Below.setCell ?_ (by simp <;> omega) _ | refine Below.drew ?_)
/-- the number that a part is -/
def numS (far : Nat) (below out : Bool) : Int × Bool := if out = true ∨ 9223372036854775807 + below.toNat < far then (0, false) else (if below then -(far : Int) else far, true)
set_option maxHeartbeats 1000000 in
theorem number_any (far : Nat) (below out : Bool) (hf : far < 18446744073709551616) (w : World) :
    Calls Tryd.prog 56 #[partV far below out] w fun e w' => e = .returned (.tuple #[.int .i64 (numS far below out).1, .bool (numS far below out).2]) ∧ Ext w w' := by
  unfold partV
  go_enter Tryd.func56, Tryd.ntmps56
  have hk : IntKind.u64.wrap 9223372036854775808 = 9223372036854775808 := by decide
  cases below <;> cases out <;> go_wp2
  all_goals go_ret2
  all_goals refine ⟨?_, ?_⟩
  case refine_2 | refine_2 | refine_2 | refine_2 | refine_2 | refine_2 =>
    repeat' (first | exact Below.refl _ _ | refine Below.alloc ?_ (by simp <;> omega) _ | refine Below.setCell ?_ (by simp <;> omega) _ | refine Below.drew ?_)
  all_goals unfold numS
  all_goals first
    | (rw [if_pos (by first | (left; rfl) | (right; simp; omega))]; rfl)
    | (rw [if_neg (by simp <;> omega)]; refine tup2 ?_ rfl)
  · rfl
  · show wrap64 (wrap64 (-wrap64 (IntKind.u64.wrap ((far : Int) - 1))) - 1) = -(far : Int)
    simp only [wrap64, IntKind.wrap_u64]
    omega

/-- the number, if it fits -/
def fit (n : Int) : Int × Bool := if -9223372036854775808 ≤ n ∧ n ≤ 9223372036854775807 then (n, true) else (0, false)
theorem fit_mul (a b : Int) (below : Bool) (n : Nat) (hn : n = a.natAbs * b.natAbs) (hb : below = true ↔ (a * b < 0)) : numS (n % 18446744073709551616) below (decide (18446744073709551616 ≤ n)) = fit (a * b) := by
  have h : (a * b).natAbs = n := by rw [hn, Int.natAbs_mul]
  generalize a * b = p at *
  unfold numS fit
  cases below
  · have : 0 ≤ p := by
      rcases Int.lt_or_le p 0 with hp | hp
      · exact absurd (hb.2 hp) (by decide)
      · exact hp
    have e : (if false = true then -((n % 18446744073709551616 : Nat) : Int) else ((n % 18446744073709551616 : Nat) : Int)) = ((n % 18446744073709551616 : Nat) : Int) := rfl
    rw [e]
    by_cases h2 : p ≤ 9223372036854775807
    · rw [if_neg (by simp; omega), if_pos (by omega)]
      congr 1
      omega
    · rw [if_neg (c := _ ∧ _) (by omega), if_pos (by simp; omega)]
  · have := hb.1 rfl
    have e : (if true = true then -((n % 18446744073709551616 : Nat) : Int) else ((n % 18446744073709551616 : Nat) : Int)) = -((n % 18446744073709551616 : Nat) : Int) := rfl
    rw [e]
    by_cases h2 : -9223372036854775808 ≤ p
    · rw [if_neg (by simp; omega), if_pos (by omega)]
      congr 1
      omega
    · rw [if_neg (c := _ ∧ _) (by omega), if_pos (by simp; omega)]

theorem sgn_mul {a b : Int} (h : a * b ≠ 0) : a * b < 0 ↔ ¬ (a < 0 ↔ b < 0) := by
  have ha : a ≠ 0 := fun e => h (by rw [e, Int.zero_mul])
  have hb : b ≠ 0 := fun e => h (by rw [e, Int.mul_zero])
  rcases Int.lt_or_gt_of_ne ha with h1 | h1 <;> rcases Int.lt_or_gt_of_ne hb with h2 | h2
  · have := Int.mul_pos_of_neg_of_neg h1 h2
    constructor <;> intro h3 <;> omega
  · have := Int.mul_neg_of_neg_of_pos h1 h2
    constructor <;> intro h3 <;> omega
  · have := Int.mul_neg_of_pos_of_neg h1 h2
    constructor <;> intro h3 <;> omega
  · have := Int.mul_pos h1 h2
    constructor <;> intro h3 <;> omega
def in64 (n : Int) : Prop := -9223372036854775808 ≤ n ∧ n < 9223372036854775808
end Go.Proofs.YtlianjnmfgakkaaDoor
