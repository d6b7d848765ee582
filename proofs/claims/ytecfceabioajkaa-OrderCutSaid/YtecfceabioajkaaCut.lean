/- OrderCut: a row is sorted by merging both its sorted parts. -/
import Derived.Test.YtecfceabioajkaaLaw
namespace Go.Proofs.Ytecfceabioajkaa
open Go.RowKit

theorem cutAt (a : Int) (m : Nat) (hm : m ≤ 60) : ∃ k : Nat, wrap64 ((IntKind.u64.wrap a).tmod ((m : Int) + 1)) = (k : Int) ∧ k ≤ m := by
  have h0 : 0 ≤ IntKind.u64.wrap a := by simp [IntKind.wrap, IntKind.signed, IntKind.bits]; omega
  have h1 : 0 ≤ (IntKind.u64.wrap a).tmod ((m : Int) + 1) := Int.tmod_nonneg _ h0
  have h2 : (IntKind.u64.wrap a).tmod ((m : Int) + 1) < (m : Int) + 1 := Int.tmod_lt_of_pos _ (by omega)
  refine ⟨((IntKind.u64.wrap a).tmod ((m : Int) + 1)).toNat, ?_, by omega⟩
  rw [IntWalk.wrap64_in _ (by omega)]
  omega
set_option maxHeartbeats 2000000 in
theorem orderCut_any (A : Option Addr) (n c : Nat) (xs : List (Int × Int)) (at_ : Int) (w : World) (hn : n = xs.length) (h : Rd pairE w.heap.size w A xs) (hc : n ≤ c) :
    Calls Try.prog 5 #[.slice A n c, .int .i64 at_] w fun e w' => e = .returned (.bool true) ∧ Ext w w' := by
  replace hn := hide hn
  replace h := hide h
  go_enter Try.func5, Try.ntmps5
  go_wp2_with fail
  refine (wakes_any _).mono ?_
  rintro e w1 ⟨rfl, hE1⟩
  go_wp2_with fail
  refine (few_any A n c xs _ hn.out (h.out.ext hE1) hc).mono ?_
  rintro e w2 ⟨v, rfl, ho2, hE2⟩
  replace hE2 := hE1.trans (hE2.mono hE1.size)
  obtain ⟨A2, c2, rfl, rd2, hc2, -⟩ := ho2.rd
  obtain ⟨ys, hys⟩ : ∃ l, l = xs.take 60 := ⟨_, rfl⟩
  rw [← hys] at ho2 rd2 hc2 ⊢
  obtain ⟨m, hm⟩ : ∃ k, k = ys.length := ⟨_, rfl⟩
  rw [← hm] at hc2 ⊢
  have hm60 : m ≤ 60 := by rw [hm, hys, List.length_take]; omega
  replace hys := hide hys
  replace hm := hide hm
  replace rd2 := hide rd2
  replace ho2 := hide ho2
  go_wp2_with fail
  refine (sort_Pair A2 m c2 ys _ hm.out rd2.out hc2 (by omega)).mono ?_
  rintro e w3 ⟨v, rfl, ho3, hE3⟩
  have hE3' := hE2.trans (hE3.mono hE2.size)
  obtain ⟨A3, c3, rfl, rd3, hc3, -⟩ := ho3.rd
  obtain ⟨zs, hzs⟩ : ∃ l, l = isort ltP ys := ⟨_, rfl⟩
  rw [← hzs] at ho3 rd3 hc3 ⊢
  have hzl : zs.length = m := by rw [hzs, length_isort, ← hm.out]
  rw [hzl] at hc3 ⊢
  have hszs := hide (show srt ltP zs by rw [hzs]; exact srt_isort swo_P ys)
  replace hzs := hide hzs
  replace hzl := hide hzl
  replace rd3 := hide rd3
  have rd2' := hide (rd2.out.ext hE3)
  replace ho3 := hide ho3
  obtain ⟨k, hk, hkm⟩ := cutAt at_ m hm60
  go_wp2_with fail
  clear hk
  have hkc : k ≤ c2 := by omega
  refine wp_region_mix (fun _ => True) [(0, true), (1, true), (2, true), (4, true), (5, true), (6, true), (3, false), (7, false), (8, false), (9, true)] (by kernel_rfl) (by kernel_rfl) (by kernel_rfl) (by kernel_rfl) (fun _ _ d _ _ h => by cases d <;> exact h) trivial ?_
  iterate 6
    apply mix_q rfl rfl
    · intro W _
      go_simp
      try exact rfl
    simp only [Act.put, List.setIfInBounds_toArray, List.set_cons_zero, List.set_cons_succ]
  refine mix_w rfl rfl (fun K hK => ?_)
  go_simp
  refine (sort_Pair A2 k c2 (ys.take k) w3.drew (by rw [List.length_take, ← hm.out]; omega) ((rd2'.out.take k).drew) (by omega) (by omega)).mono ?_
  rintro e w4 ⟨v4, rfl, ho4, hE4⟩
  obtain ⟨A4, c4, rfl, rd4, hc4, -⟩ := ho4.rd
  rw [length_isort, List.length_take, ← hm.out, Nat.min_eq_left hkm] at hc4 ⊢
  refine hK _ _ trivial ?_
  clear hK K
  try simp only [Act.put, List.setIfInBounds_toArray, List.set_cons_zero, List.set_cons_succ]
  refine mix_w rfl rfl (fun K hK => ?_)
  go_simp
  have hE34 : Ext w3 w4 := (Below.refl _ _).drew.trans hE4
  have rd2'' := rd2'.out.ext hE34
  refine (sort_Pair _ (m - k) (c2 - k) (ys.drop k) _ (by rw [List.length_drop, ← hm.out]) (rd2''.cut (k := k) (c := c2) (by rw [← hm.out]; exact hc2)) (by omega) (by omega)).mono ?_
  rintro e w5 ⟨v5, rfl, ho5, hE5⟩
  obtain ⟨A5, c5, rfl, rd5, hc5, -⟩ := ho5.rd
  rw [length_isort, List.length_drop, ← hm.out] at hc5 ⊢
  refine hK _ _ trivial ?_
  clear hK K
  try simp only [Act.put, List.setIfInBounds_toArray, List.set_cons_zero, List.set_cons_succ]
  refine mix_w rfl rfl (fun K hK => ?_)
  go_simp
  refine (merge_Pair A4 A5 k (m - k) c4 c5 _ _ _ (by rw [length_isort, List.length_take, ← hm.out]; omega) (by rw [length_isort, List.length_drop, ← hm.out]) (rd4.ext hE5) rd5 hc4 hc5 (by omega) (by omega)).mono ?_
  rintro e w6 ⟨v6, rfl, ho6, hE6⟩
  obtain ⟨A6, c6, rfl, rd6, hc6, -⟩ := ho6.rd
  rw [mrg_isort swo_P, List.take_append_drop, ← hzs.out] at rd6 hc6 ⊢
  rw [hzl.out] at hc6 ⊢
  refine hK _ _ trivial ?_
  clear hK K
  try simp only [Act.put, List.setIfInBounds_toArray, List.set_cons_zero, List.set_cons_succ]
  iterate 1
    apply mix_q rfl rfl
    · intro W _
      go_simp
      try exact rfl
    simp only [Act.put, List.setIfInBounds_toArray, List.set_cons_zero, List.set_cons_succ]
  refine mix_nil ?_
  have hE36 : Ext w3 w6 := hE34.trans ((hE5.mono hE34.size).trans (hE6.mono (Nat.le_trans hE34.size hE5.size)))
  have hE06 : Below w.heap.size w w6 := hE3'.trans (hE36.mono hE3'.size)
  have rd3' := hide (rd3.out.ext hE36)
  replace rd6 := hide rd6
  clear ho4 ho5 ho6 rd4 rd5 hE4 hE5 hE6
  generalize (ite (c2 = k) A2 (Option.map (fun x => x.add (k * 2)) A2)) = Az
  go_wp2_with fail
  refine (equal_Pair A3 A6 m c3 m c6 zs zs _ hzl.out.symm rd3'.out hzl.out.symm rd6.out (by omega)).mono ?_
  rintro e w7 ⟨rfl, hE7⟩
  rw [decide_eq_true rfl]
  have hE07 := hE06.trans (hE7.mono hE06.size)
  have rd7 := hide (rd3'.out.ext hE7)
  go_wp2_with fail
  refine (sort_Pair A3 m c3 zs _ hzl.out.symm rd7.out hc3 (by omega)).mono ?_
  rintro e w8 ⟨v8, rfl, ho8, hE8⟩
  obtain ⟨A8, c8, rfl, rd8, hc8, -⟩ := ho8.rd
  rw [isort_idem swo_P hszs.out] at rd8 hc8 ⊢
  rw [hzl.out] at hc8 ⊢
  have hE08 := hE07.trans (hE8.mono hE07.size)
  have rd78 := hide (rd7.out.ext hE8)
  replace rd8 := hide rd8
  clear ho8
  go_wp2_with fail
  refine (equal_Pair A8 A3 m c8 m c3 zs zs _ hzl.out.symm rd8.out hzl.out.symm rd78.out (by omega)).mono ?_
  rintro e w9 ⟨rfl, hE9⟩
  rw [decide_eq_true rfl]
  have hE09 := hE08.trans (hE9.mono hE08.size)
  have rd9 := hide (rd78.out.ext hE9)
  go_wp2_with fail
  refine (isSorted_any A3 m c3 zs _ hzl.out.symm rd9.out (by omega) hszs.out).mono ?_
  rintro e w10 ⟨rfl, hE10⟩
  have hE010 := hE09.trans (hE10.mono hE09.size)
  go_wp2
  go_ret
  exact ⟨rfl, hE010⟩
end Go.Proofs.Ytecfceabioajkaa
