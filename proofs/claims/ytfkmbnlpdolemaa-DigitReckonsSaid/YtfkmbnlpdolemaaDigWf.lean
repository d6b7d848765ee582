/- Contracts of the document's wide numbers: Fits. -/
import Derived.Test.YtfkmbnlpdolemaaDigWt
namespace Go.Proofs.Ytfkmbnlpdolemaa
open Go.RowKit Go.Lib

def mid (T : Int) : Prop := -170141183460469231731687303715884105728 ≤ T ∧ T ≤ 170141183460469231731687303715884105728
theorem lim_two (T : Int) : wrap64 ((lim T 1 : Int) * 4294967296 + lim T 0) = wrap64 T := by
  have s0 : rest T 0 = 4294967296 * rest T 1 + lim T 0 := rest_step T 0
  have s1 : rest T 1 = 4294967296 * rest T 2 + lim T 1 := rest_step T 1
  rw [rest_zero] at s0
  unfold wrap64
  omega
theorem lim_inj {v T : Int} (hv : in64 v) (hT : mid T) (h0 : lim v 0 = lim T 0) (h1 : lim v 1 = lim T 1) (h2 : lim v 2 = lim T 2) (h3 : lim v 3 = lim T 3) (h4 : lim v 4 = lim T 4) : v = T := by
  have e1 := five_of v
  have e2 := five_of T
  have e : five (fun j => lim v j) = five (fun j => lim T j) := by
    unfold five
    simp only [h0, h1, h2, h3, h4]
  rw [e1, e2] at e
  have p5 : pw 5 = 1461501637330902918203684832716283019655932542976 := by decide
  rw [p5] at e
  unfold in64 at hv
  unfold mid at hT
  omega

@[go_sem] theorem eq5 (a0 a1 a2 a3 a4 b0 b1 b2 b3 b4 : Int) (w : World) :
    (Op.equalIn 10000 42 (.agg #[.int .u64 a0, .int .u64 a1, .int .u64 a2, .int .u64 a3, .int .u64 a4]) (.agg #[.int .u64 b0, .int .u64 b1, .int .u64 b2, .int .u64 b3, .int .u64 b4])).run Try.prog w = .ok (a0 == b0 && (a1 == b1 && (a2 == b2 && (a3 == b3 && a4 == b4)))) w := by
  have u3 := Try.underlying40
  have a3' := Try.isAgg40
  have z3 := Try.sizeOf40
  rw [show (10000 : Nat) = 9999 + 1 from rfl, Op.equalIn]
  simp only [Sem.run_bind, run_underlying Try.underlying42, Result.andThen_ok]
  simp only [Std.Legacy.Range.forIn_eq_forIn_range', Std.Legacy.Range.size, Nat.sub_zero, Nat.add_sub_cancel, Nat.div_one, List.range'_succ, List.range'_zero, List.forIn_cons, List.forIn_nil]
  go_simp
  by_cases h0 : a0 = b0
  · by_cases h1 : a1 = b1
    · by_cases h2 : a2 = b2
      · by_cases h3 : a3 = b3 <;> by_cases h4 : a4 = b4 <;> simp [h0, h1, h2, h3, h4]
      · simp [h0, h1, h2]
    · simp [h0, h1]
  · simp [h0]
set_option maxHeartbeats 2000000 in
theorem wfits_any (T : Int) (hT : mid T) (w : World) :
    Calls Try.prog 22 #[wV T] w fun e w' => e = .returned (.tuple #[.int .i64 (fit T).1, .bool (fit T).2]) ∧ Ext w w' := by
  have hl := lim_two T
  have b0 := lim_lt T 0
  have b1 := lim_lt T 1
  obtain ⟨v, hv⟩ : ∃ v, v = wrap64 T := ⟨_, rfl⟩
  have hvi : in64 v := by rw [hv]; unfold wrap64 in64; omega
  rw [← hv] at hl
  unfold wV
  obtain ⟨a0, ha0⟩ : ∃ a : Int, a = lim T 0 := ⟨_, rfl⟩
  obtain ⟨a1, ha1⟩ : ∃ a : Int, a = lim T 1 := ⟨_, rfl⟩
  obtain ⟨a2, ha2⟩ : ∃ a : Int, a = lim T 2 := ⟨_, rfl⟩
  obtain ⟨a3, ha3⟩ : ∃ a : Int, a = lim T 3 := ⟨_, rfl⟩
  obtain ⟨a4, ha4⟩ : ∃ a : Int, a = lim T 4 := ⟨_, rfl⟩
  rw [← ha0, ← ha1] at hl
  rw [← ha0, ← ha1, ← ha2, ← ha3, ← ha4]
  have s1 : IntKind.u64.wrap (a1 * 4294967296) = a1 * 4294967296 := by rw [IntKind.wrap_u64]; omega
  have s2 : IntKind.u64.wrap (a1 * 4294967296 + a0) = a1 * 4294967296 + a0 := by rw [IntKind.wrap_u64]; omega
  have s3 : IntKind.i64.wrap (a1 * 4294967296 + a0) = v := by rw [IntKind.wrap_i64, ← hl]; unfold wrap64; rfl
  clear hl b0 b1
  replace ha0 := hide ha0
  replace ha1 := hide ha1
  replace ha2 := hide ha2
  replace ha3 := hide ha3
  replace ha4 := hide ha4
  replace hT := hide hT
  replace hv := hide hv
  replace hvi := hide hvi
  go_enter Try.func22, Try.ntmps22
  obtain ⟨wx, hwx⟩ : ∃ wx, wx = w.alloc (.cells #[.int .u64 a0, .int .u64 a1, .int .u64 a2, .int .u64 a3, .int .u64 a4] 42) := ⟨_, rfl⟩
  have hbx := arr_new w _ rfl a0 a1 a2 a3 a4 42 (o := fun j => if j = 0 then a0 else if j = 1 then a1 else if j = 2 then a2 else if j = 3 then a3 else a4) rfl rfl rfl rfl rfl
  have hEx : Ext w wx := by rw [hwx]; exact (Below.refl _ _).alloc (Nat.le_refl _) _
  go_wp2
  rw [← hwx] at hbx ⊢
  have c0 : wx.cell? ⟨w.heap.size, 0, none⟩ = some (.int .u64 a0) := (hbx.1 0 (by omega)).1
  have c1 : wx.cell? ⟨w.heap.size, 1, none⟩ = some (.int .u64 a1) := (hbx.1 1 (by omega)).1
  have c2 : wx.cell? ⟨w.heap.size, 2, none⟩ = some (.int .u64 a2) := (hbx.1 2 (by omega)).1
  have c3 : wx.cell? ⟨w.heap.size, 3, none⟩ = some (.int .u64 a3) := (hbx.1 3 (by omega)).1
  have c4 : wx.cell? ⟨w.heap.size, 4, none⟩ = some (.int .u64 a4) := (hbx.1 4 (by omega)).1
  have hbl := hbx.2
  replace hwx := hide hwx
  clear hbx s1 s2 s3
  refine wp_region_mix (fun W => Ext wx W) [(0, true), (2, true), (1, false), (3, true)] (by kernel_rfl) (by kernel_rfl) (by kernel_rfl) (by kernel_rfl) (fun _ _ d _ _ h => by cases d <;> exact h) ?_ ?_
  · exact Ext.drew1 wx
  iterate 2
    apply mix_q rfl rfl
    · intro W hW
      have hcW := (bcell hW).1
      go_simp
      try exact rfl
    simp only [Act.put, List.setIfInBounds_toArray, List.set_cons_zero, List.set_cons_succ]
  refine mix_w rfl rfl (fun K hK => ?_)
  go_simp
  refine (of_any v hvi.out _).mono ?_
  rintro e w2 ⟨rfl, hE⟩
  have hE2 : Ext wx w2 := (Ext.drew1 wx).trans hE
  refine hK _ _ hE2 ?_
  clear hK K
  try simp only [Act.put, List.setIfInBounds_toArray, List.set_cons_zero, List.set_cons_succ]
  unfold wV
  by_cases hin : in64 T
  · have hvT : v = T := by
      have := hv.out
      unfold in64 at hin
      unfold wrap64 at this
      omega
    have e := fit_in hin
    have e0 := ha0.out
    have e1 := ha1.out
    have e2 := ha2.out
    have e3 := ha3.out
    have e4 := ha4.out
    rw [← hvT] at e0 e1 e2 e3 e4
    rw [← e0, ← e1, ← e2, ← e3, ← e4]
    clear e0 e1 e2 e3 e4
    replace e := hide e
    replace hvT := hide hvT
    iterate 1
      apply mix_q rfl rfl
      · intro W hW
        have hcW := (bcell hW).1
        go_simp
        try exact rfl
      simp only [Act.put, List.setIfInBounds_toArray, List.set_cons_zero, List.set_cons_succ]
    refine mix_nil ?_
    go_wp2
    go_ret2
    exact ⟨by rw [e.out, ← hvT.out]; rfl, hEx.trans (hE2.mono hEx.size)⟩
  · have e := fit_out hin
    have hne : ((lim v 0 : Int) == a0 && ((lim v 1 : Int) == a1 && ((lim v 2 : Int) == a2 && ((lim v 3 : Int) == a3 && (lim v 4 : Int) == a4)))) = false := by
      cases hc : ((lim v 0 : Int) == a0 && ((lim v 1 : Int) == a1 && ((lim v 2 : Int) == a2 && ((lim v 3 : Int) == a3 && (lim v 4 : Int) == a4)))) with
      | false => rfl
      | true =>
        simp only [Bool.and_eq_true, beq_iff_eq] at hc
        obtain ⟨c0, c1, c2, c3, c4⟩ := hc
        rw [ha0.out] at c0
        rw [ha1.out] at c1
        rw [ha2.out] at c2
        rw [ha3.out] at c3
        rw [ha4.out] at c4
        have := lim_inj hvi.out hT.out (Int.ofNat_inj.1 c0) (Int.ofNat_inj.1 c1) (Int.ofNat_inj.1 c2) (Int.ofNat_inj.1 c3) (Int.ofNat_inj.1 c4)
        rw [this] at hvi
        exact absurd hvi.out hin
    replace e := hide e
    replace hin := hide hin
    generalize (lim v 0 : Int) = l0 at *
    generalize (lim v 1 : Int) = l1 at *
    generalize (lim v 2 : Int) = l2 at *
    generalize (lim v 3 : Int) = l3 at *
    generalize (lim v 4 : Int) = l4 at *
    refine mix_q (v := .bool true) rfl rfl ?_ ?_
    · intro W hW
      have hcW := (bcell hW).1
      go_simp
    simp only [Act.put, List.setIfInBounds_toArray, List.set_cons_zero, List.set_cons_succ]
    refine mix_nil ?_
    go_wp2
    go_ret2
    exact ⟨by rw [e.out]; rfl, hEx.trans (hE2.mono hEx.size)⟩
end Go.Proofs.Ytfkmbnlpdolemaa
