/- Sets of numbers: the iterator over the numbers of words. -/
import Derived.RangeFuncBox
import Derived.RangeFuncNested
import Derived.RangeFuncBound
import Derived.RangeFuncCalls
import Derived.RangeFuncLeaves
import Derived.Shelf.Abstract
import Derived.WalkKit
import Derived.OwnWalkIn
import Derived.TacticsInMore
import Derived.LoopNIn
import Derived.LoopIn
import Derived.Maps.AppendAt
import Derived.Test.YtkiklbngfocljaaDoorBitA
namespace Go.Proofs.YtkiklbngfocljaaDoor
open Go.RowKit Go.Shelf
attribute [local go_sem] Oper.semAt_some

def deb : List Nat := [0, 1, 56, 2, 57, 49, 28, 3, 61, 58, 42, 50, 38, 29, 17, 4, 62, 47, 59, 36, 45, 43, 51, 22, 53, 39, 33, 30, 24, 18, 12, 5, 63, 55, 48, 27, 60, 41, 37, 16, 46, 35, 44, 21, 52, 32, 23, 11, 54, 26, 40, 15, 34, 20, 31, 10, 25, 14, 19, 9, 13, 8, 7, 6]
/-- the library's table lies in the first block -/
def LaidT (w : World) : Prop := (∀ (j : Nat) x, deb[j]? = some x → w.cell? ⟨0, j, none⟩ = some (.int .u8 (x : Int))) ∧ 1 ≤ w.heap.size
theorem LaidT.below {w w' : World} {B : Nat} (h : LaidT w) (h0 : 1 ≤ B) (hE : Below B w w') : LaidT w' :=
  ⟨fun j x hx => (hE.cell (p := ⟨0, j, none⟩) h0).trans (h.1 j x hx), Nat.le_trans h.2 hE.size⟩
theorem LaidT.ext {w w' : World} (h : LaidT w) (hE : Ext w w') : LaidT w' := h.below h.2 hE
theorem deb_at : ∀ k, k < 64 → deb[(2 ^ k * 285870213051353865 % 18446744073709551616) / 288230376151711744]? = some k := by decide +kernel
theorem deb_lt : ∀ k, k < 64 → (2 ^ k * 285870213051353865 % 18446744073709551616) / 288230376151711744 < 64 := by decide +kernel
theorem tz_any (x : Nat) (h0 : 0 < x) (hx : x < 18446744073709551616) (w : World) (hL : LaidT w) :
    Calls Tryd.prog 57 #[.int .u64 x] w fun e w' => e = .returned (.int .i64 ((tz x : Nat) : Int)) ∧ w' = w := by
  obtain ⟨hk, -⟩ := tz_spec h0 hx
  have u1 : IntKind.u64.wrap (-(x : Int)) = ((18446744073709551616 - x : Nat) : Int) := by rw [IntKind.wrap_u64]; omega
  have u2 : bits .and .u64 (x : Int) ((18446744073709551616 - x : Nat) : Int) = ((2 ^ tz x : Nat) : Int) := by rw [bits_and_u64_nat _ _ hx (by omega), low_and h0 hx]
  have h2 := deb_at _ hk
  have h3 := deb_lt _ hk
  obtain ⟨z, hz⟩ : ∃ z, z = 2 ^ tz x * 285870213051353865 % 18446744073709551616 := ⟨_, rfl⟩
  have u3 : IntKind.u64.wrap (((2 ^ tz x : Nat) : Int) * 285870213051353865) = (z : Int) := by rw [IntKind.wrap_u64, hz]; omega
  rw [← hz] at h2 h3
  obtain ⟨q, hq⟩ : ∃ q, q = z / 288230376151711744 := ⟨_, rfl⟩
  have u4 : (z : Int) / 288230376151711744 = (q : Int) := by rw [hq]; omega
  rw [← hq] at h2 h3
  have hc := hL.1 q _ h2
  have hs : 0 < w.heap.size := hL.2
  have h0' : ((x : Int) == 0) = false := by rw [beq_eq_false_iff_ne]; omega
  have hq' : (q : Int) < 64 := by omega
  generalize 2 ^ tz x = p at *
  generalize 18446744073709551616 - x = m at *
  generalize tz x = k at *
  clear hz hq h2 hL h0
  go_enter Tryd.func57, Tryd.ntmps57
  go_wp2
  go_ret
  exact ⟨rfl, rfl⟩
theorem numsAt_snoc : ∀ (i : Nat) (ws : List Nat) (x : Nat), numsAt i (ws ++ [x]) = numsAt i ws ++ (bitsOf x).map (64 * (i + ws.length) + ·)
  | i, [], x => by simp [numsAt]
  | i, w :: ws, x => by
    rw [List.cons_append, numsAt, numsAt, numsAt_snoc (i + 1) ws x, List.append_assoc, List.length_cons]
    congr 3
    congr 1
    funext k
    omega
theorem nums_snoc {ws : List Nat} {k x : Nat} (h : ws[k]? = some x) : nums (ws.take (k + 1)) = nums (ws.take k) ++ (bitsOf x).map (64 * k + ·) := by
  have hk : k < ws.length := by
    rcases Nat.lt_or_ge k ws.length with h1 | h1
    · exact h1
    · rw [List.getElem?_eq_none h1] at h; cases h
  unfold nums
  rw [take_snoc h, numsAt_snoc, List.length_take, Nat.min_eq_left (Nat.le_of_lt hk), Nat.zero_add]
theorem numsAt_append : ∀ (i : Nat) (a b : List Nat), numsAt i (a ++ b) = numsAt i a ++ numsAt (i + a.length) b
  | i, [], b => by simp [numsAt]
  | i, w :: a, b => by
    rw [List.cons_append, numsAt, numsAt, numsAt_append (i + 1) a b, List.append_assoc, List.length_cons, show i + 1 + a.length = i + (a.length + 1) by omega]
theorem nums_split {ws : List Nat} {k x : Nat} (h : ws[k]? = some x) : nums ws = nums (ws.take k) ++ ((bitsOf x).map (64 * k + ·) ++ numsAt (k + 1) (ws.drop (k + 1))) := by
  have h1 : ws = ws.take (k + 1) ++ ws.drop (k + 1) := (List.take_append_drop _ _).symm
  have hk : k < ws.length := by
    rcases Nat.lt_or_ge k ws.length with h1 | h1
    · exact h1
    · rw [List.getElem?_eq_none h1] at h; cases h
  have h2 : nums ws = nums (ws.take (k + 1)) ++ numsAt (k + 1) (ws.drop (k + 1)) := by
    unfold nums
    conv => lhs; rw [h1]
    rw [numsAt_append, List.length_take, Nat.min_eq_left hk, Nat.zero_add]
  rw [h2, nums_snoc h, List.append_assoc]
set_option maxRecDepth 100000 in
set_option maxHeartbeats 2000000 in
/-- the iterator's closure: for every loop body that keeps what lay below n₀ -/
theorem numbers1_in (l Bn n₀ : Nat) (N : Nat) (A : Option Addr) (n c : Nat) (ws : List Nat) (hf : Fit ws) (hn : n = ws.length) (hl : n ≤ 1000) (hn0 : 1 ≤ n₀) (J Jx : List Nat → World → Prop)
    (hY : ∀ pre x W, J pre W → pre.length < (nums ws).length → YieldAt Fence.wide (N - 1) Tryd.prog l #[.int .i64 ((x : Nat) : Int)] W fun e W' =>
      (e = .returned (.bool true) ∧ J (pre ++ [x]) W' ∧ Below n₀ W W') ∨ (e = .returned (.bool false) ∧ Jx (pre ++ [x]) W'))
    (W : World) (hBn : W.cell? ⟨Bn, 0, none⟩ = some (.slice A n c)) (hr : Rd wE n₀ W A ws) (hn1 : n₀ ≤ W.heap.size) (hL : LaidT W) (h0 : J [] W) :
    CallsIn Fence.wide N Tryd.prog 56 #[.func (.yield l) #[] #[], .pointer (some ⟨Bn, 0, none⟩)] W fun e W' => (∃ v, e = .returned v) ∧
      ((∃ ys, ys = nums ws ∧ J ys W') ∨ (∃ pre, pre <+: nums ws ∧ Jx pre W')) := by
  replace hn := hide hn
  replace hr := hide hr
  replace hL := hide hL
  refine callsIn_of_wp Tryd.func56 rfl trivial ?_ rfl
  simp only [Tryd.ntmps56, List.size_toArray, List.length_cons, List.length_nil, Nat.reduceAdd, Nat.reduceSub, Array.replicate_succ, Array.replicate_zero, List.push_toArray, List.append_toArray, List.nil_append, List.cons_append]
  gi_wp2
  gi_loopw [7] (fun i wr => ∃ k : Nat, k ≤ n ∧ i = .int .i64 k ∧ J (nums (ws.take k)) wr ∧ Below n₀ W wr) (fun i _ => n - (intOf i).toNat)
  case atStart => exact ⟨0, Nat.zero_le _, rfl, h0, Below.refl _ _⟩
  case round =>
    obtain ⟨k, hk, rfl, hJs, hnx⟩ := hrel
    by_cases hlt : k < n
    · have hlt' : (k : Int) < (n : Int) := by omega
      obtain ⟨b, off, rfl, ra⟩ := hr.out.at_ (i := k) (by rw [← hn.out]; exact hlt)
      obtain ⟨x, hx⟩ := get_some (xs := ws) (i := k) (by rw [← hn.out]; exact hlt)
      have hb : b < wr.heap.size := Nat.lt_of_lt_of_le ra.1 (Nat.le_trans hn1 hnx.size)
      have hxc := (ra.below hnx).word hx
      have hx64 := hf x (List.mem_of_getElem? hx)
      have hsp := hide (nums_split hx)
      have hsn := hide (nums_snoc hx)
      have u5 : IntKind.i64.wrap (k : Int) = (k : Int) := IntWalk.i64_in _ (by omega)
      obtain ⟨p, hp⟩ : ∃ p, p = 64 * k := ⟨_, rfl⟩
      rw [← hp] at hsp hsn
      have u6 : IntKind.i64.wrap ((k : Int) * 64) = (p : Int) := by rw [IntWalk.i64_in _ (by omega)]; omega
      have hp7 : p < 64000 := by omega
      replace hx := hide hx
      replace ra := hide ra
      replace hp := hide hp
      gi_wp2
      gi_loopw [4] (fun v wr => ∃ (y : Nat) (ds : List Nat), v = .int .u64 (y : Int) ∧ y < 18446744073709551616 ∧ Hid (ds ++ bitsOf y = bitsOf x) ∧ J (nums (ws.take k) ++ ds.map (p + ·)) wr ∧ Below n₀ W wr) (fun v _ => (bitsOf (intOf v).toNat).length)
      case atStart => exact ⟨x, [], rfl, hx64, hide rfl, by simpa using hJs, hnx⟩
      case round =>
        clear hJs hnx hxc hb
        obtain ⟨y, ds, rfl, hy64, hds, hJs, hnx⟩ := hrel
        by_cases hy0 : y = 0
        · subst hy0
          have hfin : J (nums (ws.take (k + 1))) wr := by
            have h := hds.out
            rw [bitsOf_zero, List.append_nil] at h
            rw [hsn.out, ← h]
            exact hJs
          gi_wp2
          go_roundw
          case rel => exact ⟨k + 1, by omega, by go_num, hfin, hnx⟩
          case measure => simp [intOf]; omega
        · have hyp : 0 < y := by omega
          have hst := bitsOf_step hyp hy64
          have hmes := bitsOf_length_lt hyp hy64
          obtain ⟨z, hz⟩ : ∃ z, z = tz y := ⟨_, rfl⟩
          have hz64 : z < 64 := by rw [hz]; exact (tz_spec hyp hy64).1
          rw [← hz] at hst
          obtain ⟨y2, hy2⟩ : ∃ y2, y2 = y &&& (y - 1) := ⟨_, rfl⟩
          have hy264 : y2 < 18446744073709551616 := by rw [hy2]; exact Nat.lt_trans (and_pred_lt hyp) hy64
          have u7 : IntKind.u64.wrap ((y : Int) - 1) = ((y - 1 : Nat) : Int) := by rw [IntKind.wrap_u64]; omega
          have u8 : bits .and .u64 (y : Int) ((y - 1 : Nat) : Int) = (y2 : Int) := by rw [hy2]; exact bits_and_u64_nat _ _ hy64 (by omega)
          rw [← hy2] at hst hmes
          have hds2 : Hid (ds ++ [z] ++ bitsOf y2 = bitsOf x) := hide (by rw [← hds.out, hst, List.append_assoc]; rfl)
          have hlen : (nums (ws.take k) ++ ds.map (p + ·)).length < (nums ws).length := by
            rw [hsp.out, ← hds.out, hst]
            simp only [List.length_append, List.length_map, List.length_cons]
            omega
          obtain ⟨q, hq⟩ : ∃ q, q = p + z := ⟨_, rfl⟩
          have u9 : IntKind.i64.wrap ((p : Int) + (z : Int)) = (q : Int) := by rw [IntWalk.i64_in _ (by omega)]; omega
          have hmap : (nums (ws.take k) ++ ds.map (p + ·)) ++ [q] = nums (ws.take k) ++ (ds ++ [z]).map (p + ·) := by rw [hq]; simp
          obtain ⟨fn, tmps, assign, body, hy, hR⟩ := hY _ q wr hJs hlen
          rw [hmap] at hR
          generalize hy1 : y - 1 = y1 at *
          have hy0' : ((y : Int) == 0) = false := by rw [beq_eq_false_iff_ne]; omega
          have hL2 := hide (hL.out.below hn0 hnx)
          replace hst := hide hst
          replace hmes := hide hmes
          replace hz := hide hz
          replace hy2 := hide hy2
          replace hq := hide hq
          replace hy1 := hide hy1
          replace hmap := hide hmap
          replace hy0 := hide hy0
          gi_wp2_with fail
          refine ⟨trivial, (fun h => by cases h), ?_⟩
          refine (callsIn_wide.2 (tz_any y hyp hy64 _ hL2.out)).mono ?_
          rintro e w' ⟨rfl, rfl⟩
          rw [← hz.out]
          gi_wp2
          refine ⟨(fun h => by cases h), hR.mono ?_⟩
          rintro e W3 (⟨rfl, hJ3, hk3⟩ | ⟨rfl, hJx3⟩)
          · have hnx3 := hnx.trans hk3
            clear hnx hL2 hR hy
            gi_wp2
            go_roundw
            case rel => exact ⟨y2, ds ++ [z], by rfl, hy264, hds2, hJ3, hnx3⟩
            case measure => have := hmes.out; simpa [intOf] using this
          · gi_wp2
            refine bodyPost_ret (results_none rfl _ _ _) rfl ?_
            refine ⟨⟨_, rfl⟩, .inr ⟨_, ?_, hJx3⟩⟩
            rw [hsp.out, ← hds2.out]
            simp only [List.map_append, List.append_assoc]
            exact ⟨_, by rw [List.append_assoc, List.append_assoc]⟩
    · obtain rfl : k = n := by omega
      have hall : nums (ws.take k) = nums ws := by rw [hn.out, List.take_length]
      replace hall := hide hall
      gi_wp2
      go_end0
      exact ⟨⟨_, rfl⟩, .inl ⟨_, rfl, by rw [← hall.out]; exact hJs⟩⟩
theorem numbers_stops (N Bn n₀ : Nat) (A : Option Addr) (n c : Nat) (ws : List Nat) (w : World) (hf : Fit ws) (hn : n = ws.length) (hl : n ≤ 1000) (hn0 : 1 ≤ n₀) (hn1 : n₀ ≤ w.heap.size) (hBn : Bn < w.heap.size)
    (hc : w.cell? ⟨Bn, 0, none⟩ = some (.slice A n c)) (hr : Rd wE n₀ w A ws) (hL : LaidT w) :
    SeqStopsK Fence.wide N Tryd.prog 56 #[.pointer (some ⟨Bn, 0, none⟩)] (fun x : Nat => #[Value.int .i64 (x : Int)]) (Below n₀) (fun ys => ys = nums ws) (fun pre => pre <+: nums ws) (nums ws).length w := fun l J Jx W hW _ _ hY h0 =>
  numbers1_in l Bn n₀ N A n c ws hf hn hl hn0 J Jx hY W ((hW.cell (p := ⟨Bn, 0, none⟩) hBn).trans hc) (hr.below (hW.mono hn1)) (Nat.le_trans hn1 hW.size) (hL.ext hW) h0
end Go.Proofs.YtkiklbngfocljaaDoor
