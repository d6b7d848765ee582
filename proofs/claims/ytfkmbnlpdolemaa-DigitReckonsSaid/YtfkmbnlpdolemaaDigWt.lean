/- Contracts of the document's wide numbers: Times. -/
import Derived.Test.YtfkmbnlpdolemaaDigWd
namespace Go.Proofs.Ytfkmbnlpdolemaa
open Go.RowKit Go.Lib

set_option maxHeartbeats 4000000 in
theorem times_any (N M : Int) (w : World) :
    Calls Try.prog 23 #[wV N, wV M] w fun e w' => e = .returned (wV (N * M)) ∧ Ext w w' := by
  unfold wV
  have hA0 := arr_new w _ rfl (lim N 0) (lim N 1) (lim N 2) (lim N 3) (lim N 4) 42 (o := fun j => lim N j) rfl rfl rfl rfl rfl
  obtain ⟨wa, hwa⟩ : ∃ wa, wa = w.alloc (.cells #[.int .u64 (lim N 0), .int .u64 (lim N 1), .int .u64 (lim N 2), .int .u64 (lim N 3), .int .u64 (lim N 4)] 42) := ⟨_, rfl⟩
  have hA1 := arr_new wa (w.heap.size + 1) (by rw [hwa]; simp) (lim M 0) (lim M 1) (lim M 2) (lim M 3) (lim M 4) 42 (o := fun j => lim M j) rfl rfl rfl rfl rfl
  obtain ⟨wb, hwb⟩ : ∃ wb, wb = wa.alloc (.cells #[.int .u64 (lim M 0), .int .u64 (lim M 1), .int .u64 (lim M 2), .int .u64 (lim M 3), .int .u64 (lim M 4)] 42) := ⟨_, rfl⟩
  have hA2 := arr_new wb (w.heap.size + 2) (by rw [hwb, hwa]; simp) 0 0 0 0 0 42 (o := fun _ => 0) rfl rfl rfl rfl rfl
  obtain ⟨wc, hwc⟩ : ∃ wc, wc = wb.alloc (.cells #[.int .u64 0, .int .u64 0, .int .u64 0, .int .u64 0, .int .u64 0] 42) := ⟨_, rfl⟩
  have hA3 := arr_new wc (w.heap.size + 3) (by rw [hwc, hwb, hwa]; simp) 0 0 0 0 0 42 (o := fun _ => 0) rfl rfl rfl rfl rfl
  rw [← hwc] at hA2
  rw [← hwb] at hA1
  rw [← hwa] at hA0
  have hE1 : Ext wa wb := by rw [hwb]; exact (Below.refl _ _).alloc (Nat.le_refl _) _
  have hE2 : Ext wb wc := by rw [hwc]; exact (Below.refl _ _).alloc (Nat.le_refl _) _
  have hE3 : Ext wc (wc.alloc (.cells #[.int .u64 0, .int .u64 0, .int .u64 0, .int .u64 0, .int .u64 0] 42)) := (Below.refl _ _).alloc (Nat.le_refl _) _
  have hE0 : Ext w wa := by rw [hwa]; exact (Below.refl _ _).alloc (Nat.le_refl _) _
  replace hA0 := hide (((hA0.ext hE1).ext hE2).ext hE3)
  replace hA1 := hide ((hA1.ext hE2).ext hE3)
  replace hA2 := hide (hA2.ext hE3)
  replace hA3 := hide hA3
  have hE12 := hE0.trans ((hE1.trans (hE2.mono hE1.size)).mono hE0.size)
  have hEE := hide (hE12.trans (hE3.mono hE12.size))
  clear hE0 hE1 hE2 hE3 hE12
  subst hwc
  subst hwb
  subst hwa
  go_enter Try.func23, Try.ntmps23
  go_wp2
  go_loopw [10] (fun v wr => ∃ (i : Nat) (o : Nat → Int), i ≤ 5 ∧ v = .int .i64 i ∧ Hid (MulAt N M i 0 o 0) ∧ Hid (ArrAt wr w.heap.size (fun j => lim N j)) ∧ Hid (ArrAt wr (w.heap.size + 1) (fun j => lim M j)) ∧ Hid (ArrAt wr (w.heap.size + 2) (fun _ => 0)) ∧ Hid (ArrAt wr (w.heap.size + 3) o) ∧ Ext w wr) (fun v _ => 5 - (intOf v).toNat)
  case atStart => exact ⟨0, fun _ => 0, by omega, rfl, hide mul_start, hA0, hA1, hA2, hA3, hEE.out⟩
  case round =>
    clear hA0 hA1 hA2 hA3 hEE
    obtain ⟨i, o, hi, rfl, hM, h0, h1, h2, h3, hB⟩ := hrel
    have hsz := hB.size
    by_cases hlt : i < 5
    · have hi5i : (i : Int) < 5 := by omega
      have hs5 : IntKind.i64.wrap (5 - (i : Int)) = 5 - (i : Int) := IntWalk.i64_in _ (by omega)
      obtain ⟨wo, rfl⟩ : ∃ wo : World, wo = wr := ⟨_, rfl⟩
      go_wp2
      go_loopw [7, 15] (fun cv v wr => ∃ (k : Nat) (o : Nat → Int) (c : Int), k ≤ 5 - i ∧ v = .int .i64 k ∧ cv = .int .u64 c ∧ Hid (MulAt N M i k o c) ∧ Hid (ArrAt wr w.heap.size (fun j => lim N j)) ∧ Hid (ArrAt wr (w.heap.size + 1) (fun j => lim M j)) ∧ Hid (ArrAt wr (w.heap.size + 2) (fun _ => 0)) ∧ Hid (ArrAt wr (w.heap.size + 3) o) ∧ Ext w wr) (fun _ v _ => 5 - i - (intOf v).toNat)
      case atStart => exact ⟨0, o, 0, Nat.zero_le _, rfl, rfl, hM, h0, h1, h2, h3, hB⟩
      case round =>
        clear hM h0 h1 h2 h3 hB hsz
        obtain ⟨k, o, c, hk, rfl, rfl, hM, h0, h1, h2, h3, hB⟩ := hrel
        have hsz := hB.size
        by_cases hlk : k < 5 - i
        · have hik : i + k < 5 := by omega
          have hk5 : k < 5 := by omega
          have hkl : (k : Int) < 5 - (i : Int) := by omega
          have hk5i : (k : Int) < 5 := by omega
          have step := mul_step hM.out hik
          obtain ⟨mb, mc0, mc1, -⟩ := hM.out
          obtain ⟨-, nc0, nc1, -⟩ := step
          have step := mul_step hM.out hik
          have b1 := lim_lt N i
          have b2 := lim_lt M k
          have mbo := mb (i + k) hik
          obtain ⟨a, ha⟩ : ∃ a : Int, a = lim N i := ⟨_, rfl⟩
          obtain ⟨b, hb⟩ : ∃ b : Int, b = lim M k := ⟨_, rfl⟩
          obtain ⟨oc, hoc⟩ : ∃ oc : Int, oc = o (i + k) := ⟨_, rfl⟩
          have c0 : wr.cell? ⟨w.heap.size, i, none⟩ = some (.int .u64 a) := by rw [(h0.out.1 i hlt).1, ha]
          have c1 : wr.cell? ⟨w.heap.size + 1, k, none⟩ = some (.int .u64 b) := by rw [(h1.out.1 k hk5).1, hb]
          have c3 : wr.cell? ⟨w.heap.size + 3, i + k, none⟩ = some (.int .u64 oc) := by rw [(h3.out.1 (i + k) hik).1, hoc]
          have f3 := (h3.out.1 (i + k) hik).2
          have l0 := h0.out.2
          have l1 := h1.out.2
          have l3 := h3.out.2
          rw [← ha, ← hb, ← hoc] at step nc0 nc1
          rw [← hoc] at mbo
          have hp0 : (0 : Int) ≤ a * b := Int.mul_nonneg (by omega) (by omega)
          have hp1 : a * b ≤ 4294967295 * 4294967295 := Int.mul_le_mul (by omega) (by omega) (by omega) (by decide)
          obtain ⟨p, hp⟩ : ∃ p, p = a * b := ⟨_, rfl⟩
          rw [← hp] at hp0 hp1 step nc0 nc1
          have s1 : IntKind.u64.wrap (a * b) = p := by rw [IntKind.wrap_u64, ← hp]; omega
          obtain ⟨pm, hpm⟩ : ∃ pm, pm = p % 4294967296 := ⟨_, rfl⟩
          obtain ⟨pd, hpd⟩ : ∃ pd, pd = p / 4294967296 := ⟨_, rfl⟩
          have s2 : p.tmod 4294967296 = pm := by rw [((tdivB _).1 hp0).2, hpm]
          have s3 : p.tdiv 4294967296 = pd := by rw [((tdivB _).1 hp0).1, hpd]
          have s4 : IntKind.u64.wrap pd = pd := by rw [IntKind.wrap_u64]; omega
          have s5 : IntKind.u64.wrap (oc + pm) = oc + pm := by rw [IntKind.wrap_u64]; omega
          have s6 : IntKind.u64.wrap (oc + pm + c) = oc + pm + c := by rw [IntKind.wrap_u64]; omega
          rw [← hpm, ← hpd] at step nc0 nc1
          obtain ⟨sm, hsm⟩ : ∃ sm, sm = (oc + pm + c) % 4294967296 := ⟨_, rfl⟩
          obtain ⟨sd, hsd⟩ : ∃ sd, sd = (oc + pm + c) / 4294967296 := ⟨_, rfl⟩
          have s7 : (oc + pm + c).tmod 4294967296 = sm := by rw [((tdivB _).1 (by omega)).2, hsm]
          have s8 : (oc + pm + c).tdiv 4294967296 = sd := by rw [((tdivB _).1 (by omega)).1, hsd]
          have s9 : IntKind.u64.wrap sd = sd := by rw [IntKind.wrap_u64]; omega
          have s10 : IntKind.u64.wrap (sd + pd) = sd + pd := by rw [IntKind.wrap_u64]; omega
          have s11 : IntKind.i64.wrap ((i : Int) + (k : Int)) = (i : Int) + (k : Int) := IntWalk.i64_in _ (by omega)
          have s12 : (i : Int) + (k : Int) < 5 := by omega
          have s13 : ((i : Int) + (k : Int)).toNat = i + k := by omega
          have s14 : 0 ≤ (i : Int) + (k : Int) := by omega
          rw [← hsm, ← hsd] at step
          have n0 := hide (h0.out.drew.drew.other (b' := w.heap.size + 3) (k := i + k) (by omega) (.int .u64 sm))
          have n1 := hide (h1.out.drew.drew.other (b' := w.heap.size + 3) (k := i + k) (by omega) (.int .u64 sm))
          have n2 := hide (h2.out.drew.drew.other (b' := w.heap.size + 3) (k := i + k) (by omega) (.int .u64 sm))
          have n3 := hide (h3.out.drew.drew.put hik sm)
          have hB' : Ext w (wr.drew.drew.setCell ⟨w.heap.size + 3, i + k, none⟩ (.int .u64 sm)) := hB.drew.drew.setCell (by show w.heap.size ≤ w.heap.size + 3; omega) _
          replace step := hide step
          have hk2 : k + 1 ≤ 5 - i := hlk
          clear h0 h1 h2 h3 hM mb mc0 mc1 nc0 nc1 b1 b2 mbo hp0 hp1
          replace ha := hide ha
          replace hb := hide hb
          replace hoc := hide hoc
          replace hp := hide hp
          replace hpm := hide hpm
          replace hpd := hide hpd
          replace hsm := hide hsm
          replace hsd := hide hsd
          go_wp2
          refine wp_region_reads [(0, true), (1, true), (2, true), (3, true), (4, true), (5, true), (6, true), (7, true), (8, true), (9, true), (10, true), (11, true), (12, true), (13, true), (14, true), (15, true), (16, true)] (by kernel_rfl) (by kernel_rfl) (by kernel_rfl) (by kernel_rfl) (fun _ _ d _ _ h => by cases d <;> exact h) ?_
          iterate 17
            apply mix_q rfl rfl
            · intro W hW
              subst hW
              go_simp
              try exact rfl
            simp only [Act.put, List.setIfInBounds_toArray, List.set_cons_zero, List.set_cons_succ]
          refine mix_nil ?_
          go_wp2
          refine wp_region_mix (fun W => (W.cell? ⟨w.heap.size, i, none⟩ = some (.int .u64 a) ∧ W.cell? ⟨w.heap.size + 1, k, none⟩ = some (.int .u64 b))) [(0, true), (1, true), (2, true), (3, true), (4, true), (5, true), (6, true), (7, true), (8, true), (9, true), (10, true), (11, true), (12, true), (13, true), (14, true), (15, true), (16, true), (17, false), (18, true)] (by kernel_rfl) (by kernel_rfl) (by kernel_rfl) (by kernel_rfl) (fun _ _ d _ _ h => by cases d <;> exact h) ?_ ?_
          · exact ⟨c0, c1⟩
          iterate 17
            apply mix_q rfl rfl
            · intro W hW
              obtain ⟨hW1, hW2⟩ := hW
              go_simp
              try exact rfl
            simp only [Act.put, List.setIfInBounds_toArray, List.set_cons_zero, List.set_cons_succ]
          refine mix_w rfl rfl (fun K hK => ?_)
          go_simp
          refine hK _ _ ⟨?_, ?_⟩ ?_
          · exact (n0.out.1 i hlt).1.trans (by rw [ha.out])
          · exact (n1.out.1 k hk5).1.trans (by rw [hb.out])
          clear hK K
          try simp only [Act.put, List.setIfInBounds_toArray, List.set_cons_zero, List.set_cons_succ]
          iterate 1
            apply mix_q rfl rfl
            · intro W hW
              obtain ⟨hW1, hW2⟩ := hW
              go_simp
              try exact rfl
            simp only [Act.put, List.setIfInBounds_toArray, List.set_cons_zero, List.set_cons_succ]
          refine mix_nil ?_
          go_wp2
          refine ⟨?_, ?_⟩
          · first
              | exact ⟨k + 1, (fun j => if j = i + k then sm else o j), sd + pd, hk2, by go_num, rfl, step, n0, n1, n2, n3, hB'⟩
              | ((repeat apply Exists.intro); exact ⟨⟨k + 1, (fun j => if j = i + k then sm else o j), sd + pd, hk2, by go_num, rfl, step, n0, n1, n2, n3, hB'⟩, rfl⟩)
          · first | (simp [intOf, lenV]; omega) | (simp [intOf]; omega)
        · obtain rfl : k = 5 - i := by omega
          have hnx := hide (mul_next hM.out hlt)
          have hkl : ¬ ((5 - i : Nat) : Int) < 5 - (i : Int) := by omega
          go_wp2
          refine ⟨⟨i + 1, o, by omega, by go_num, hnx, h0, h1, h2, h3, hB⟩, ?_⟩
          simp [intOf]
          omega
    · obtain rfl : i = 5 := by omega
      have hlm := mul_end hM.out
      have hA5 := h3.out
      have hZ5 := h2.out
      have hbl := hA5.2
      have hzl := hZ5.2
      have e0 := hlm 0 (by omega)
      have e1 := hlm 1 (by omega)
      have e2 := hlm 2 (by omega)
      have e3 := hlm 3 (by omega)
      have e4 := hlm 4 (by omega)
      have hA6 : ArrAt wr (w.heap.size + 3) (fun j => lim (N * M) j) := hA5.congr fun j hj => (hlm j hj).symm
      have c0 : wr.cell? ⟨w.heap.size + 3, 0, none⟩ = some (.int .u64 (lim (N * M) 0)) := (hA6.1 0 (by omega)).1
      have c1 : wr.cell? ⟨w.heap.size + 3, 1, none⟩ = some (.int .u64 (lim (N * M) 1)) := (hA6.1 1 (by omega)).1
      have c2 : wr.cell? ⟨w.heap.size + 3, 2, none⟩ = some (.int .u64 (lim (N * M) 2)) := (hA6.1 2 (by omega)).1
      have c3 : wr.cell? ⟨w.heap.size + 3, 3, none⟩ = some (.int .u64 (lim (N * M) 3)) := (hA6.1 3 (by omega)).1
      have c4 : wr.cell? ⟨w.heap.size + 3, 4, none⟩ = some (.int .u64 (lim (N * M) 4)) := (hA6.1 4 (by omega)).1
      have z0 : wr.cell? ⟨w.heap.size + 2, 0, none⟩ = some (.int .u64 0) := (hZ5.1 0 (by omega)).1
      have z1 : wr.cell? ⟨w.heap.size + 2, 1, none⟩ = some (.int .u64 0) := (hZ5.1 1 (by omega)).1
      have z2 : wr.cell? ⟨w.heap.size + 2, 2, none⟩ = some (.int .u64 0) := (hZ5.1 2 (by omega)).1
      have z3 : wr.cell? ⟨w.heap.size + 2, 3, none⟩ = some (.int .u64 0) := (hZ5.1 3 (by omega)).1
      have z4 : wr.cell? ⟨w.heap.size + 2, 4, none⟩ = some (.int .u64 0) := (hZ5.1 4 (by omega)).1
      have f0 : wr.frozen? ⟨w.heap.size + 2, 0, none⟩ = false := (hZ5.1 0 (by omega)).2
      have f1 : wr.frozen? ⟨w.heap.size + 2, 1, none⟩ = false := (hZ5.1 1 (by omega)).2
      have f2 : wr.frozen? ⟨w.heap.size + 2, 2, none⟩ = false := (hZ5.1 2 (by omega)).2
      have f3 : wr.frozen? ⟨w.heap.size + 2, 3, none⟩ = false := (hZ5.1 3 (by omega)).2
      have f4 : wr.frozen? ⟨w.heap.size + 2, 4, none⟩ = false := (hZ5.1 4 (by omega)).2
      clear hA5 hZ5 hA6 h0 h1 h2 h3 e0 e1 e2 e3 e4 hlm hM
      go_wp2
      refine bodyPost_ret (v := wV (N * M)) ?_ rfl ⟨rfl, ?_⟩
      · rw [results_cell_one rfl]
        go_simp
        rfl
      · have h2 : w.heap.size ≤ w.heap.size + 2 := by omega
        exact ((((hB.setCell h2 _).setCell h2 _).setCell h2 _).setCell h2 _).setCell h2 _
end Go.Proofs.Ytfkmbnlpdolemaa
