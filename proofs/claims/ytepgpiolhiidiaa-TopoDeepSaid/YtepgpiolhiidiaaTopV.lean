/- slices.Repeat of one element (with the kit's contract of math/bits.Mul, laid at this program: numbers of this dump). -/
import Derived.Shelf.Bits.Mul64
import Derived.Test.YtepgpiolhiidiaaProg
import Derived.Test.YtepgpiolhiidiaaGraT
import Derived.Lib.SlBuf
import Derived.Laws.CopyOwn
namespace Go.Proofs
open Go.Shelf
def Try.lays212_ren : Go.Shelf.Ren := ⟨fun | 212 => 68 | 263 => 71 | 264 => 72 | n => n, fun | 46 => 91 | 51 => 97 | 146 => 98 | 53 => 100 | 148 => 101 | n => n, fun | n => n⟩
theorem Try.lays212 : Go.Proofs.Lays.n212 Try.prog Try.lays212_ren := {
  mixed := by kernel_rfl
  f212 := Try.func68.trans (congrArg some (by kernel_rfl))
  f263 := Try.func71.trans (congrArg some (by kernel_rfl))
  f264 := Try.func72.trans (congrArg some (by kernel_rfl))
  t46 := Try.underlying91
  a46 := Try.isAgg91
  z46 := Try.sizeOf91
  v46 := Try.zeroValue91
  t51 := Try.underlying97
  a51 := Try.isAgg97
  z51 := Try.sizeOf97
  v51 := Try.zeroValue97
  t53 := Try.underlying100
  a53 := Try.isAgg100
  z53 := Try.sizeOf100
  v53 := Try.zeroValue100
  t146 := Try.underlying98
  a146 := Try.isAgg98
  z146 := Try.sizeOf98
  v146 := Try.zeroValue98
  t148 := Try.underlying101
  a148 := Try.isAgg101
  z148 := Try.sizeOf101
  v148 := Try.zeroValue101 }
open Go.RowKit Go.Lib in
theorem Try.bits_Mul (x y : Nat) (hx : x < 18446744073709551616) (hy : y < 18446744073709551616) (w : World) :
    Calls Try.prog 68 #[.int .u64 x, .int .u64 y] w fun e w' => e = .returned (.tuple #[.int .u64 ((x * y / 18446744073709551616 : Nat) : Int), .int .u64 ((x * y % 18446744073709551616 : Nat) : Int)]) ∧ w' = w := Any.bits_Mul Try.lays212 x y hx hy w
end Go.Proofs
namespace Go.Proofs.Ytepgpiolhiidiaa
open Go.RowKit
theorem intE_row (l : List Int) : intE.row l = l.map (Value.int .i64) := by
  induction l with
  | nil => rfl
  | cons y ys ih => rw [El.row_cons, ih]; rfl

/-- a row of k places, the first m of them set -/
def blkL (k m : Nat) (l : Int) : List Value := List.replicate m (.int .i64 l) ++ List.replicate (k - m) (.int .i64 0)
theorem blkL_length {k m : Nat} (l : Int) (h : m ≤ k) : (blkL k m l).length = k := by unfold blkL; simp; omega
theorem rep_copy (w : World) (g k m q : Nat) (l : Int) (ty : TypeId) (c1 c2 : Nat) (hg : w.heap[g]? = some (.cells (blkL k m l).toArray 3 (0, 0))) (hm : m ≤ k) (hq : q = min m (k - m)) :
    (Builtin.copy_ #[28, 28] ty #[.slice (some ⟨g, m, none⟩) (k - m) c1, .slice (some ⟨g, 0, none⟩) m c2]).run Try.prog w = .ok (goInt q) (w.setRow g (blkL k (m + q) l).toArray) := by
  have hr := run_copy_row (P := Try.prog) w 28 28 ty 3 g m (k - m) c1 ⟨g, 0, none⟩ m c2 (blkL k m l).toArray 3 (List.replicate q (.int .i64 l)) (by kernel_rfl) (by kernel_rfl) hg
    (by rw [List.length_replicate, hq]) (fun j v hv => by
      have hj : j < q := by
        rcases Nat.lt_or_ge j q with h | h
        · exact h
        · rw [List.getElem?_eq_none (by simpa using h)] at hv
          cases hv
      rw [List.getElem?_replicate, if_pos hj] at hv
      injection hv with hv
      subst hv
      have ha : (⟨g, 0, none⟩ : Addr).add j = ⟨g, j, none⟩ := by unfold Addr.add; split <;> simp_all
      rw [ha]
      unfold World.cell?
      rw [hg]
      have hjm : j < m := by omega
      simp [blkL, List.getElem?_append, hjm]) (by simp [blkL_length l hm]; omega) (by intro v hv; rw [List.eq_of_mem_replicate hv]; rfl)
  rw [hr]
  simp only [List.length_replicate]
  congr 3
  unfold blkL
  have h1 : (List.replicate m (Value.int .i64 l)).length = m := List.length_replicate
  rw [List.take_append_of_le_length (by omega), List.take_of_length_le (by omega), List.drop_append, List.drop_of_length_le (by omega), List.nil_append, h1, List.drop_replicate, List.replicate_append_replicate]
  congr 2
  omega
theorem rep_first (w : World) (g k : Nat) (l : Int) (ty : TypeId) (b off c1 c2 : Nat) (hg : w.heap[g]? = some (.cells (blkL k 0 l).toArray 3 (0, 0))) (hx : w.cell? ⟨b, off, none⟩ = some (.int .i64 l)) :
    (Builtin.copy_ #[28, 28] ty #[.slice (some ⟨g, 0, none⟩) k c1, .slice (some ⟨b, off, none⟩) 1 c2]).run Try.prog w = .ok (goInt (min 1 k : Nat)) (w.setRow g (blkL k (min 1 k) l).toArray) := by
  have hr := run_copy_row (P := Try.prog) w 28 28 ty 3 g 0 k c1 ⟨b, off, none⟩ 1 c2 (blkL k 0 l).toArray 3 (List.replicate (min 1 k) (.int .i64 l)) (by kernel_rfl) (by kernel_rfl) hg
    (by rw [List.length_replicate]) (fun j v hv => by
      have hj : j < min 1 k := by
        rcases Nat.lt_or_ge j (min 1 k) with h | h
        · exact h
        · rw [List.getElem?_eq_none (by simpa using h)] at hv
          cases hv
      rw [List.getElem?_replicate, if_pos hj] at hv
      injection hv with hv
      subst hv
      obtain rfl : j = 0 := by omega
      have ha : (⟨b, off, none⟩ : Addr).add 0 = ⟨b, off, none⟩ := by unfold Addr.add; split <;> simp_all
      rw [ha]
      exact hx) (by simp [blkL_length l (Nat.zero_le k)]; omega) (by intro v hv; rw [List.eq_of_mem_replicate hv]; rfl)
  rw [hr]
  simp only [List.length_replicate]
  congr 3
  unfold blkL
  simp
theorem blk_of_own {base : Nat} {w : World} {g k : Nat} (l : Int) (h : Own intE 3 base w (.slice (some ⟨g, 0, none⟩) k k) (List.replicate k (0 : Int))) : w.heap[g]? = some (.cells (blkL k 0 l).toArray 3 (0, 0)) := by
  rcases h.2 with ⟨h1, -⟩ | ⟨g', cap, cur, h1, hb, hg, hnc, hcm, hsz, hcur⟩
  · injection h1 with h2
    cases h2
  · injection h1 with h2 h3 h4
    injection h2 with h2
    injection h2 with h2
    subst h2 h4
    rw [hg]
    have hc : cur.toList = (blkL k 0 l) := by
      rw [List.length_replicate, List.take_of_length_le (by rw [Array.length_toList, hsz]; exact Nat.le_refl _), intE_row] at hcur
      rw [hcur]
      simp [blkL]
    rw [← hc, Array.toArray_toList]
end Go.Proofs.Ytepgpiolhiidiaa
namespace Go.Proofs.Ytepgpiolhiidiaa
open Go.RowKit

theorem zero_int : ∀ i z, (Try.prog).info? 3 = some i → i.zero = some z → z.cells.toList = intE.cs 0 := by
  intro i z hi hz
  have e1 : ((Try.prog).info? 3).map (·.zero) = some (some (.int .i64 0)) := by kernel_rfl
  rw [hi] at e1
  simp [hz] at e1
  subst e1
  rfl
theorem own_of_blk {w : World} {g k : Nat} {l : Int} (hm : k ≤ maxLen) (h : w.heap[g]? = some (.cells (blkL k k l).toArray 3 (0, 0))) : Own intE 3 g w (.slice (some ⟨g, 0, none⟩) k k) (List.replicate k l) := by
  have hz : (blkL k k l).length = k := blkL_length l (Nat.le_refl _)
  unfold Own
  rw [List.length_replicate]
  refine ⟨by rw [intE_row, List.length_map, List.length_replicate]; show k = k * 1; omega, .inr ⟨g, k, _, rfl, Nat.le_refl _, h, Nat.le_refl _, hm, by show _ = k * 1; simp [hz], ?_⟩⟩
  rw [intE_row, List.map_replicate, List.take_of_length_le (by show _ ≤ k * 1; simp [hz])]
  simp [blkL]
set_option maxRecDepth 100000 in
set_option maxHeartbeats 1000000 in
theorem repeat_any (A : Option Addr) (c1 k : Nat) (l : Int) (w : World) (hk : k ≤ 1000) (h : Rd intE w.heap.size w A [l]) :
    Calls Try.prog 52 #[.slice A 1 c1, .int .i64 k] w fun e w' => ∃ v, e = .returned v ∧ Own intE 3 w.heap.size w' v (List.replicate k l) ∧ Ext w w' := by
  obtain ⟨b, off, rfl, hra⟩ := h.at_ (i := 0) (by simp)
  have hb1 := hra.1
  have hx := hra.int0 (p := l) rfl
  replace hra := hide hra
  clear h
  have u1 : IntKind.u64.wrap (1 : Int) = 1 := by rw [IntKind.wrap_u64]; omega
  have u2 : IntKind.u64.wrap (k : Int) = k := by rw [IntKind.wrap_u64]; omega
  have u3 : IntKind.i64.wrap (k : Int) = k := IntWalk.i64_in _ (by omega)
  go_enter Try.func52, Try.ntmps52
  go_wp2_with fail
  refine (Try.bits_Mul 1 k (by omega) (by omega) _).mono ?_
  rintro e w1 ⟨rfl, rfl⟩
  rw [show 1 * k / 18446744073709551616 = 0 by omega, show 1 * k % 18446744073709551616 = k by omega]
  have u4 : ¬ ((9223372036854775807 : Int) < (k : Int)) := by omega
  go_wp2_with (at_make; refine wpList_make (base := w1.heap.size) (z0 := (0 : Int)) (n := k) tyInt rfl (.tmp 29) (.tmp 29) rfl zero_int rfl rfl rfl rfl (by omega) (Nat.le_refl _) ?_)
  intro w2 hO hg
  have hgr := blk_of_own l hO
  have hB : Ext w1 w2 := ⟨hg.os, hg.tape, hg.output, hg.size, fun j hj => hg.block j hj (by simp)⟩
  have hx2 : w2.cell? ⟨b, off, none⟩ = some (.int .i64 l) := by rw [(bcell hB).1 b off hb1]; exact hx
  have hrun := hide (rep_first w2 w1.heap.size k l 3 b off k c1 hgr hx2)
  clear hO hg
  have hB3 : Ext w1 (w2.setRow w1.heap.size (blkL k (min 1 k) l).toArray) := below_setRow hB (Nat.le_refl _) _
  have hg3 : (w2.setRow w1.heap.size (blkL k (min 1 k) l).toArray).heap[w1.heap.size]? = some (.cells (blkL k (min 1 k) l).toArray 3 (0, 0)) := setRow_heap _ _ _ _ _ _ hgr
  go_wp2_with (refine Lib.wpList_copy_run w2 rfl (.tmp 31) (.tmp 32) 28 28 rfl (.slice (some ⟨w1.heap.size, 0, none⟩) k k) (.slice (some ⟨b, off, none⟩) 1 c1) rfl rfl hrun.out ?_)
  clear hrun hgr hx2 hx hb1 hra hB
  generalize w2.setRow w1.heap.size (blkL k (min 1 k) l).toArray = w3 at *
  go_loopw [8] (fun o wr => ∃ m : Nat, min 1 k ≤ m ∧ m ≤ k ∧ o = .int .i64 m ∧ Hid (wr.heap[w1.heap.size]? = some (.cells (blkL k m l).toArray 3 (0, 0))) ∧ Ext w1 wr) (fun o _ => k - (intOf o).toNat)
  case atStart => exact ⟨min 1 k, Nat.le_refl _, by omega, rfl, hide hg3, hB3⟩
  case round =>
    clear hB3 hg3
    obtain ⟨m, hm1, hmk, rfl, hg, hB⟩ := hrel
    by_cases hlt : m < k
    · have hm0 : 0 < m := by omega
      obtain ⟨q, hq⟩ : ∃ q, q = min m (k - m) := ⟨_, rfl⟩
      have hq0 : 0 < q := by omega
      have hqk : m + q ≤ k := by omega
      have hq' : 0 < (q : Int) := by omega
      have u5 : IntKind.i64.wrap ((m : Int) + (q : Int)) = ((m + q : Nat) : Int) := IntWalk.i64_in _ (by omega)
      have u6 : (m : Int) ≤ (k : Int) := by omega
      have u7 : (m : Int) < (k : Int) := by omega
      have hg' := hide (setRow_heap wr.drew w1.heap.size _ (blkL k (m + q) l).toArray _ _ hg.out)
      have hB' : Ext w1 (wr.drew.setRow w1.heap.size (blkL k (m + q) l).toArray) := below_setRow hB.drew (Nat.le_refl _) _
      have hcp := hide (rep_copy wr.drew w1.heap.size k m q l 3 (k - m) k hg.out hmk hq)
      clear hq
      go_wp2
      refine wp_region_mix (fun _ => True) [(0, true), (1, true), (2, true), (3, true), (4, true), (5, true), (6, true), (7, false), (8, true), (9, true)] (by kernel_rfl) (by kernel_rfl) (by kernel_rfl) (by kernel_rfl) (fun _ _ d _ _ h => by cases d <;> exact h) trivial ?_
      iterate 7
        apply mix_q rfl rfl
        · intro W _
          go_simp
          try exact rfl
        simp only [Act.put, List.setIfInBounds_toArray, List.set_cons_zero, List.set_cons_succ]
      rw [if_neg (show ¬ k = m by omega)]
      refine mix_w rfl rfl (fun K hK => ?_)
      refine Lib.wp_copy_run wr.drew (.tmp 41) (.tmp 44) 28 28 rfl (.slice (some ⟨w1.heap.size, m, none⟩) (k - m) (k - m)) (.slice (some ⟨w1.heap.size, 0, none⟩) m k) rfl rfl hcp.out ?_
      refine hK _ _ trivial ?_
      clear hK K
      simp only [Act.put, List.setIfInBounds_toArray, List.set_cons_zero, List.set_cons_succ]
      iterate 2
        apply mix_q rfl rfl
        · intro W _
          go_simp
          try exact rfl
        simp only [Act.put, List.setIfInBounds_toArray, List.set_cons_zero, List.set_cons_succ]
      refine mix_nil ?_
      go_wp2
      refine ⟨?_, ?_⟩
      · first
          | exact ⟨m + q, by omega, hqk, by go_num, hg', hB'⟩
          | ((repeat apply Exists.intro); exact ⟨⟨m + q, by omega, hqk, by go_num, hg', hB'⟩, rfl⟩)
      · first | (simp [intOf, lenV]; omega) | (simp [intOf]; omega) | (simp [intOf]; done)
    · obtain rfl : m = k := by omega
      have hO : Own intE 3 w1.heap.size wr (.slice (some ⟨w1.heap.size, 0, none⟩) m m) (List.replicate m l) := own_of_blk (by unfold maxLen; omega) hg.out
      replace hO := hide hO
      go_wp2
      go_ret
      exact ⟨_, rfl, hO.out, hB⟩
end Go.Proofs.Ytepgpiolhiidiaa
