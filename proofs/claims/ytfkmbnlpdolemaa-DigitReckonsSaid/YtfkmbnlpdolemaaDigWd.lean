/- Contracts of the document's wide numbers: Of, Plus, Times, Fits. -/
import Derived.Test.YtfkmbnlpdolemaaDigW
import Derived.Test.YtfkmbnlpdolemaaDigO
import Derived.Test.YtfkmbnlpdolemaaDigWp
namespace Go.Proofs.Ytfkmbnlpdolemaa
open Go.RowKit Go.Lib

/-- five numbers lie in a block -/
def ArrAt (w : World) (b : Nat) (o : Nat → Int) : Prop := (∀ j, j < 5 → w.cell? ⟨b, j, none⟩ = some (.int .u64 (o j)) ∧ w.frozen? ⟨b, j, none⟩ = false) ∧ b < w.heap.size
section
variable {w w' : World} {b : Nat} {o : Nat → Int}
theorem ArrAt.same (h : ArrAt w b o) (hb : w'.heap[b]? = w.heap[b]?) (hs : w.heap.size ≤ w'.heap.size) : ArrAt w' b o :=
  ⟨fun j hj => ⟨(World.cell?_of_block (a := ⟨b, j, none⟩) hb).trans (h.1 j hj).1, (World.frozen?_of_block (a := ⟨b, j, none⟩) hb).trans (h.1 j hj).2⟩, Nat.lt_of_lt_of_le h.2 hs⟩
theorem ArrAt.ext (h : ArrAt w b o) (hE : Ext w w') : ArrAt w' b o := h.same (hE.block b h.2) hE.size
theorem ArrAt.drew (h : ArrAt w b o) : ArrAt w.drew b o := h
theorem ArrAt.put (h : ArrAt w b o) {k : Nat} (hk : k < 5) (x : Int) : ArrAt (w.setCell ⟨b, k, none⟩ (.int .u64 x)) b (fun j => if j = k then x else o j) := by
  refine ⟨fun j hj => ⟨?_, ?_⟩, by simpa using h.2⟩
  · by_cases he : j = k
    · subst he
      show _ = some (Value.int .u64 (if j = j then x else o j))
      rw [if_pos rfl]
      exact World.cell?_setCell_same _ _ _ (h.1 j hj).1
    · show _ = some (Value.int .u64 (if j = k then x else o j))
      rw [if_neg he]
      refine (World.cell?_setCell_other _ _ _ _ ?_).trans (h.1 j hj).1
      intro e
      injection e with _ e _
      exact he e.symm
  · rw [World.frozen?_setCell]
    exact (h.1 j hj).2
theorem ArrAt.other (h : ArrAt w b o) {b' k : Nat} (hb : b ≠ b') (u : Value) : ArrAt (w.setCell ⟨b', k, none⟩ u) b o :=
  h.same (Below.heap_setCell _ _ _ _ hb) (by simp)
theorem ArrAt.congr (h : ArrAt w b o) {o' : Nat → Int} (ho : ∀ j, j < 5 → o' j = o j) : ArrAt w b o' :=
  ⟨fun j hj => by rw [ho j hj]; exact h.1 j hj, h.2⟩
end
/-- a wide number -/
def wV (N : Int) : Value := .agg #[.int .u64 (lim N 0), .int .u64 (lim N 1), .int .u64 (lim N 2), .int .u64 (lim N 3), .int .u64 (lim N 4)]

theorem tdivB (v : Int) : (0 ≤ v → v.tdiv 4294967296 = v / 4294967296 ∧ v.tmod 4294967296 = v % 4294967296) ∧ (v < 0 → v.tdiv 4294967296 = -((-v) / 4294967296) ∧ v.tmod 4294967296 = -((-v) % 4294967296)) := by
  refine ⟨fun h => ⟨Int.tdiv_eq_ediv_of_nonneg h, Int.tmod_eq_emod_of_nonneg h⟩, fun h => ?_⟩
  have e : v = -(-v) := by omega
  constructor
  · conv => lhs; rw [e]
    rw [Int.neg_tdiv, Int.tdiv_eq_ediv_of_nonneg (by omega)]
  · conv => lhs; rw [e]
    rw [Int.neg_tmod, Int.tmod_eq_emod_of_nonneg (by omega)]
theorem u64_mod (v : Int) : (IntKind.u64.wrap v).tmod 4294967296 = v % 4294967296 := by
  rw [IntKind.wrap_u64, Int.tmod_eq_emod_of_nonneg (by omega)]
  omega
set_option maxHeartbeats 2000000 in
theorem of_any (n : Int) (hn : in64 n) (w : World) :
    Calls Try.prog 21 #[.int .i64 n] w fun e w' => e = .returned (wV n) ∧ Ext w w' := by
  replace hn := hide hn
  go_enter Try.func21, Try.ntmps21
  go_wp2
  go_loopw [0, 6] (fun v i wr => ∃ k : Nat, k ≤ 5 ∧ i = .int .i64 k ∧ v = .int .i64 (rest n k) ∧ Hid (in64 (rest n k)) ∧ Hid (ArrAt wr (w.heap.size + 1) (fun j => if j < k then lim n j else 0)) ∧ Hid (ArrAt wr w.heap.size (fun _ => 0)) ∧ Ext w wr) (fun _ i _ => 5 - (intOf i).toNat)
  case atStart =>
    refine ⟨0, by omega, rfl, by rw [rest_zero], hide (by rw [rest_zero]; exact hn.out), hide ⟨fun j hj => ?_, ?_⟩, hide ⟨fun j hj => ?_, ?_⟩, ?_⟩
    · have : j = 0 ∨ j = 1 ∨ j = 2 ∨ j = 3 ∨ j = 4 := by omega
      rcases this with rfl | rfl | rfl | rfl | rfl <;> simp
    · simp
    · have : j = 0 ∨ j = 1 ∨ j = 2 ∨ j = 3 ∨ j = 4 := by omega
      rcases this with rfl | rfl | rfl | rfl | rfl <;> simp
    · simp; omega
    · repeat' (first | exact Below.refl _ _ | refine Below.alloc ?_ (by simp <;> omega) _ | refine Below.setCell ?_ (by simp <;> omega) _ | refine Below.drew ?_)
  case round =>
    obtain ⟨k, hk, rfl, rfl, hin, hA, hZ, hB⟩ := hrel
    have hsz := hB.size
    by_cases hlt : k < 5
    · obtain ⟨v, hv⟩ : ∃ v, v = rest n k := ⟨_, rfl⟩
      rw [← hv] at hin ⊢
      have hc := (hA.out.1 k hlt).1
      have hf := (hA.out.1 k hlt).2
      have hbl := hA.out.2
      replace hv := hide hv
      have hd := tdivB v
      have hr : rest n (k + 1) = v / 4294967296 := by rw [rest_succ, ← hv]
      have hl : (lim n k : Int) = v % 4294967296 := by rw [lim_eq, ← hv]
      have hii := hin.out
      have hin' : Hid (in64 (rest n (k + 1))) := hide (by unfold in64 at hii ⊢; omega)
      replace hl : (IntKind.u64.wrap v).tmod 4294967296 = lim n k := by rw [u64_mod, hl]
      have hA' : Hid (ArrAt (wr.setCell ⟨w.heap.size + 1, k, none⟩ (.int .u64 ((IntKind.u64.wrap v).tmod 4294967296))) (w.heap.size + 1) (fun j => if j < k + 1 then lim n j else 0)) := hide (by
        refine (hA.out.put hlt _).congr fun j hj => ?_
        show (if j < k + 1 then (lim n j : Int) else 0) = if j = k then _ else if j < k then (lim n j : Int) else 0
        rw [hl]
        by_cases h1 : j = k
        · subst h1
          rw [if_pos (by omega), if_pos rfl]
        · rw [if_neg h1]
          by_cases h2 : j < k
          · rw [if_pos h2, if_pos (by omega)]
          · rw [if_neg h2, if_neg (by omega)])
      have hZ' : Hid (ArrAt (wr.setCell ⟨w.heap.size + 1, k, none⟩ (.int .u64 ((IntKind.u64.wrap v).tmod 4294967296))) w.heap.size (fun _ => 0)) := hide (hZ.out.other (by omega) _)
      have hB' : Ext w (wr.setCell ⟨w.heap.size + 1, k, none⟩ (.int .u64 ((IntKind.u64.wrap v).tmod 4294967296))) := hB.setCell (by show w.heap.size ≤ w.heap.size + 1; omega) _
      replace hv := hide hv
      by_cases hneg : v.tmod 4294967296 < 0
      · have hq : wrap64 (wrap64 (v.tdiv 4294967296) - 1) = rest n (k + 1) := by
          rw [hr]
          unfold in64 at hii
          unfold wrap64
          rcases Int.lt_or_le v 0 with h | h
          · have := hd.2 h
            omega
          · have := hd.1 h
            omega
        replace hq := hide hq
        clear hd hr hl hii
        go_wp2
        refine ⟨⟨k + 1, by omega, by go_num, congrArg (Value.int .i64) hq.out, hin', hA', hZ', hB'⟩, ?_⟩
        simp [intOf]
        omega
      · have hq : wrap64 (v.tdiv 4294967296) = rest n (k + 1) := by
          rw [hr]
          unfold in64 at hii
          unfold wrap64
          rcases Int.lt_or_le v 0 with h | h
          · have := hd.2 h
            omega
          · have := hd.1 h
            omega
        replace hq := hide hq
        clear hd hr hl hii
        go_wp2
        refine ⟨⟨k + 1, by omega, by go_num, congrArg (Value.int .i64) hq.out, hin', hA', hZ', hB'⟩, ?_⟩
        simp [intOf]
        omega
    · obtain rfl : k = 5 := by omega
      have hA5 := hA.out
      have hZ5 := hZ.out
      have hbl := hA5.2
      have hzl := hZ5.2
      have c0 : wr.cell? ⟨w.heap.size + 1, 0, none⟩ = some (.int .u64 (lim n 0)) := (hA5.1 0 (by omega)).1
      have c1 : wr.cell? ⟨w.heap.size + 1, 1, none⟩ = some (.int .u64 (lim n 1)) := (hA5.1 1 (by omega)).1
      have c2 : wr.cell? ⟨w.heap.size + 1, 2, none⟩ = some (.int .u64 (lim n 2)) := (hA5.1 2 (by omega)).1
      have c3 : wr.cell? ⟨w.heap.size + 1, 3, none⟩ = some (.int .u64 (lim n 3)) := (hA5.1 3 (by omega)).1
      have c4 : wr.cell? ⟨w.heap.size + 1, 4, none⟩ = some (.int .u64 (lim n 4)) := (hA5.1 4 (by omega)).1
      have z0 : wr.cell? ⟨w.heap.size, 0, none⟩ = some (.int .u64 0) := (hZ5.1 0 (by omega)).1
      have z1 : wr.cell? ⟨w.heap.size, 1, none⟩ = some (.int .u64 0) := (hZ5.1 1 (by omega)).1
      have z2 : wr.cell? ⟨w.heap.size, 2, none⟩ = some (.int .u64 0) := (hZ5.1 2 (by omega)).1
      have z3 : wr.cell? ⟨w.heap.size, 3, none⟩ = some (.int .u64 0) := (hZ5.1 3 (by omega)).1
      have z4 : wr.cell? ⟨w.heap.size, 4, none⟩ = some (.int .u64 0) := (hZ5.1 4 (by omega)).1
      have f0 : wr.frozen? ⟨w.heap.size, 0, none⟩ = false := (hZ5.1 0 (by omega)).2
      have f1 : wr.frozen? ⟨w.heap.size, 1, none⟩ = false := (hZ5.1 1 (by omega)).2
      have f2 : wr.frozen? ⟨w.heap.size, 2, none⟩ = false := (hZ5.1 2 (by omega)).2
      have f3 : wr.frozen? ⟨w.heap.size, 3, none⟩ = false := (hZ5.1 3 (by omega)).2
      have f4 : wr.frozen? ⟨w.heap.size, 4, none⟩ = false := (hZ5.1 4 (by omega)).2
      clear hA5 hZ5 hA hZ
      go_wp2
      refine bodyPost_ret (v := wV n) ?_ rfl ⟨rfl, ?_⟩
      · rw [results_cell_one rfl]
        go_simp
        rfl
      · exact ((((hB.setCell (Nat.le_refl _) _).setCell (Nat.le_refl _) _).setCell (Nat.le_refl _) _).setCell (Nat.le_refl _) _).setCell (Nat.le_refl _) _

theorem arr_new (w : World) (b : Nat) (hb : w.heap.size = b) (a0 a1 a2 a3 a4 : Int) (t : TypeId) {o : Nat → Int} (h0 : o 0 = a0) (h1 : o 1 = a1) (h2 : o 2 = a2) (h3 : o 3 = a3) (h4 : o 4 = a4) :
    ArrAt (w.alloc (.cells #[.int .u64 a0, .int .u64 a1, .int .u64 a2, .int .u64 a3, .int .u64 a4] t)) b o := by
  subst hb
  refine ⟨fun j hj => ?_, by simp⟩
  have : j = 0 ∨ j = 1 ∨ j = 2 ∨ j = 3 ∨ j = 4 := by omega
  rcases this with rfl | rfl | rfl | rfl | rfl <;> simp [h0, h1, h2, h3, h4]

set_option maxHeartbeats 2000000 in
theorem plus_any (N M : Int) (w : World) :
    Calls Try.prog 20 #[wV N, wV M] w fun e w' => e = .returned (wV (N + M)) ∧ Ext w w' := by
  unfold wV
  have hA0 := arr_new w _ rfl (lim N 0) (lim N 1) (lim N 2) (lim N 3) (lim N 4) 42 (o := fun j => lim N j) rfl rfl rfl rfl rfl
  obtain ⟨wa, hwa⟩ : ∃ wa, wa = w.alloc (.cells #[.int .u64 (lim N 0), .int .u64 (lim N 1), .int .u64 (lim N 2), .int .u64 (lim N 3), .int .u64 (lim N 4)] 42) := ⟨_, rfl⟩
  have hA1 := arr_new wa (w.heap.size + 1) (by rw [hwa]; simp) (lim M 0) (lim M 1) (lim M 2) (lim M 3) (lim M 4) 42 (o := fun j => lim M j) rfl rfl rfl rfl rfl
  obtain ⟨wb, hwb⟩ : ∃ wb, wb = wa.alloc (.cells #[.int .u64 (lim M 0), .int .u64 (lim M 1), .int .u64 (lim M 2), .int .u64 (lim M 3), .int .u64 (lim M 4)] 42) := ⟨_, rfl⟩
  have hA2 := arr_new wb (w.heap.size + 2) (by rw [hwb, hwa]; simp) 0 0 0 0 0 42 (o := fun _ => 0) rfl rfl rfl rfl rfl
  rw [← hwb] at hA1
  rw [← hwa] at hA0
  have hE1 : Ext wa wb := by rw [hwb]; exact (Below.refl _ _).alloc (Nat.le_refl _) _
  have hE2 : Ext wb (wb.alloc (.cells #[.int .u64 0, .int .u64 0, .int .u64 0, .int .u64 0, .int .u64 0] 42)) := (Below.refl _ _).alloc (Nat.le_refl _) _
  have hE0 : Ext w wa := by rw [hwa]; exact (Below.refl _ _).alloc (Nat.le_refl _) _
  replace hA0 := hide ((hA0.ext hE1).ext hE2)
  replace hA1 := hide (hA1.ext hE2)
  replace hA2 := hide hA2
  have hEE := hide (hE0.trans ((hE1.trans (hE2.mono hE1.size)).mono hE0.size))
  clear hE0 hE1 hE2
  subst hwb
  subst hwa
  go_enter Try.func20, Try.ntmps20
  go_wp2
  go_loopw [5, 8] (fun v i wr => ∃ k : Nat, k ≤ 5 ∧ i = .int .i64 k ∧ v = .int .u64 (carry N M k) ∧ Hid (0 ≤ carry N M k ∧ carry N M k ≤ 1) ∧ Hid (ArrAt wr w.heap.size (fun j => if j < k then lim (N + M) j else lim N j)) ∧ Hid (ArrAt wr (w.heap.size + 1) (fun j => lim M j)) ∧ Hid (ArrAt wr (w.heap.size + 2) (fun _ => 0)) ∧ Ext w wr) (fun _ i _ => 5 - (intOf i).toNat)
  case atStart => exact ⟨0, by omega, rfl, by rw [carry_zero], hide (by rw [carry_zero]; omega), hide (hA0.out.congr fun j _ => by simp), hA1, hA2, hEE.out⟩
  case round =>
    obtain ⟨k, hk, rfl, rfl, hc, h0, h1, h2, hB⟩ := hrel
    have hsz := hB.size
    by_cases hlt : k < 5
    · obtain ⟨cc, hcc⟩ : ∃ cc, cc = carry N M k := ⟨_, rfl⟩
      obtain ⟨st1, st2, st3⟩ := carry_step N M k hc.out
      have b1 := lim_lt N k
      have b2 := lim_lt M k
      rw [← hcc] at hc st1 st2 ⊢
      obtain ⟨a, ha⟩ : ∃ a : Int, a = lim N k := ⟨_, rfl⟩
      obtain ⟨b, hb⟩ : ∃ b : Int, b = lim M k := ⟨_, rfl⟩
      rw [← ha, ← hb] at st1 st2
      have c0 : wr.cell? ⟨w.heap.size, k, none⟩ = some (.int .u64 a) := by rw [(h0.out.1 k hlt).1, ha]; simp
      have c1 : wr.cell? ⟨w.heap.size + 1, k, none⟩ = some (.int .u64 b) := by rw [(h1.out.1 k hlt).1, hb]
      have f0 := (h0.out.1 k hlt).2
      have l0 := h0.out.2
      have l1 := h1.out.2
      have hco := hc.out
      have s1 : IntKind.u64.wrap (a + b) = a + b := by rw [IntKind.wrap_u64]; omega
      have s2 : IntKind.u64.wrap (a + b + cc) = a + b + cc := by rw [IntKind.wrap_u64]; omega
      have s3 : (a + b + cc).tmod 4294967296 = lim (N + M) k := by rw [(tdivB _).1 (by omega) |>.2, st1]
      have s4 : (a + b + cc).tdiv 4294967296 = carry N M (k + 1) := by rw [(tdivB _).1 (by omega) |>.1, st2]
      obtain ⟨r, hr⟩ : ∃ r : Int, r = lim (N + M) k := ⟨_, rfl⟩
      obtain ⟨c', hc'⟩ : ∃ c', c' = carry N M (k + 1) := ⟨_, rfl⟩
      rw [← hr] at s3
      rw [← hc'] at s4 st3
      have s5 : IntKind.u64.wrap c' = c' := by rw [IntKind.wrap_u64]; omega
      have n0 := hide (((h0.out.drew.put hlt r).congr (o' := fun j => if j < k + 1 then lim (N + M) j else lim N j) fun j hj => by
        show (if j < k + 1 then (lim (N + M) j : Int) else lim N j) = if j = k then r else if j < k then (lim (N + M) j : Int) else lim N j
        by_cases h1 : j = k
        · subst h1
          rw [if_pos (by omega), if_pos rfl, hr]
        · rw [if_neg h1]
          by_cases h2 : j < k
          · rw [if_pos h2, if_pos (by omega)]
          · rw [if_neg h2, if_neg (by omega)]))
      have n1 := hide (h1.out.drew.other (b' := w.heap.size) (k := k) (by omega) (.int .u64 r))
      have n2 := hide (h2.out.drew.other (b' := w.heap.size) (k := k) (by omega) (.int .u64 r))
      have hB' : Ext w (wr.drew.setCell ⟨w.heap.size, k, none⟩ (.int .u64 r)) := hB.drew.setCell (Nat.le_refl _) _
      clear st1 st2 hco b1 b2 h0 h1 h2 hc
      replace ha := hide ha
      replace hb := hide hb
      replace hr := hide hr
      replace hcc := hide hcc
      replace st3 := hide st3
      replace hc' := hide hc'
      go_wp2
      refine wp_region_reads [(0, true), (1, true), (2, true), (3, true), (4, true), (5, true), (6, true), (7, true), (8, true), (9, true)] (by kernel_rfl) (by kernel_rfl) (by kernel_rfl) (by kernel_rfl) (fun _ _ d _ _ h => by cases d <;> exact h) ?_
      iterate 10
        apply mix_q rfl rfl
        · intro W hW
          subst hW
          go_simp
          try exact rfl
        simp only [Act.put, List.setIfInBounds_toArray, List.set_cons_zero, List.set_cons_succ]
      refine mix_nil ?_
      go_wp2
      refine ⟨⟨k + 1, by omega, by go_num, by rw [← hc'.out], hide (by rw [← hc'.out]; exact st3.out), n0, n1, n2, hB'⟩, ?_⟩
      simp [intOf]
      omega
    · obtain rfl : k = 5 := by omega
      have hA5 := h0.out
      have hZ5 := h2.out
      have hbl := hA5.2
      have hzl := hZ5.2
      have c0 : wr.cell? ⟨w.heap.size, 0, none⟩ = some (.int .u64 (lim (N + M) 0)) := (hA5.1 0 (by omega)).1
      have c1 : wr.cell? ⟨w.heap.size, 1, none⟩ = some (.int .u64 (lim (N + M) 1)) := (hA5.1 1 (by omega)).1
      have c2 : wr.cell? ⟨w.heap.size, 2, none⟩ = some (.int .u64 (lim (N + M) 2)) := (hA5.1 2 (by omega)).1
      have c3 : wr.cell? ⟨w.heap.size, 3, none⟩ = some (.int .u64 (lim (N + M) 3)) := (hA5.1 3 (by omega)).1
      have c4 : wr.cell? ⟨w.heap.size, 4, none⟩ = some (.int .u64 (lim (N + M) 4)) := (hA5.1 4 (by omega)).1
      have z0 : wr.cell? ⟨w.heap.size + 2, 0, none⟩ = some (.int .u64 0) := (hZ5.1 0 (by omega)).1
      have z1 : wr.cell? ⟨w.heap.size + 2, 1, none⟩ = some (.int .u64 0) := (hZ5.1 1 (by omega)).1
      have z2 : wr.cell? ⟨w.heap.size + 2, 2, none⟩ = some (.int .u64 0) := (hZ5.1 2 (by omega)).1
      have z3 : wr.cell? ⟨w.heap.size + 2, 3, none⟩ = some (.int .u64 0) := (hZ5.1 3 (by omega)).1
      have z4 : wr.cell? ⟨w.heap.size + 2, 4, none⟩ = some (.int .u64 0) := (hZ5.1 4 (by omega)).1
      have f0 : wr.frozen? ⟨w.heap.size + 2, 0, none⟩ = false := (hZ5.1 0 (by omega)).2
      have f1 : wr.frozen? ⟨w.heap.size + 2, 1, none⟩ = false := (hZ5.1 1 (by omega)).2
      have f2 : wr.frozen? ⟨w.heap.size + 2, 2, none⟩ = false := (hZ5.1 2 (by omega)).2
      have f3 : wr.frozen? ⟨w.heap.size + 2, 3, none⟩ = false := (hZ5.1 3 (by omega)).2
      have f4 : wr.frozen? ⟨w.heap.size + 2, 4, none⟩ = false := (hZ5.1 4 (by omega)).2
      clear hA5 hZ5 h0 h1 h2
      go_wp2
      refine bodyPost_ret (v := wV (N + M)) ?_ rfl ⟨rfl, ?_⟩
      · rw [results_cell_one rfl]
        go_simp
        rfl
      · have h2 : w.heap.size ≤ w.heap.size + 2 := by omega
        exact ((((hB.setCell h2 _).setCell h2 _).setCell h2 _).setCell h2 _).setCell h2 _
end Go.Proofs.Ytfkmbnlpdolemaa
