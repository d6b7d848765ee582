/- graph.Out. -/
import Derived.Test.YtoihankkldafoaaGraJ
namespace Go.Proofs.Ytoihankkldafoaa
open Go.RowKit

theorem zero_Edge_ : ∀ i z, Try.prog.info? 35 = some i → i.zero = some z → z.cells.toList = edgeE.cs (0, 0, 0) := zero_Edge
theorem Rd.part {α : Type} {E : El α} {B : Nat} {w : World} {A : Option Addr} {xs : List α} (h : Rd E B w A xs) (i j : Nat) : Rd E B w (if j = i then A else A.map (fun x => x.add (i * E.sz))) ((xs.drop i).take (j - i)) := by
  by_cases hji : j = i
  · subst hji
    rw [Nat.sub_self, List.take_zero]
    exact Rd.nil_
  · rw [if_neg hji]
    have := h.cut (k := i) (c := xs.length + i + 1) (by omega)
    rw [if_neg (by omega)] at this
    exact this.take (j - i)
def outL (n : Int) (xs : List (Int × Int × Int)) (v : Int) : List (Int × Int × Int) := if askE n xs [v] = 0 then xs.filter (fun x => decide (x.1 = v)) else []
theorem askE_ok {n : Int} {xs : List (Int × Int × Int)} {vs : List Int} (h : askE n xs vs = 0) : rightG n xs = true ∧ vs.all (nodeIn n) = true := by
  unfold askE at h
  split at h
  · split at h
    · exact ⟨by assumption, by assumption⟩
    · cases h
  · cases h
theorem askE_cases (n : Int) (xs : List (Int × Int × Int)) (vs : List Int) : askE n xs vs = 0 ∨ askE n xs vs = 2 ∨ askE n xs vs = 150 := by
  unfold askE
  split
  · split
    · exact .inl rfl
    · exact .inr (.inl rfl)
  · exact .inr (.inr rfl)
set_option maxHeartbeats 2000000 in
theorem out_any (n v : Int) (A : Option Addr) (m c : Nat) (xs : List (Int × Int × Int)) (w : World) (h : Rd edgeE w.heap.size w A xs) (hm : m = xs.length) (hmc : m ≤ c) (hl : m ≤ 1000000) :
    Calls Try.prog 23 #[.agg #[.int .i64 n, .slice A m c], .int .i64 v] w fun e w' => ∃ u, e = .returned (.tuple #[u, .int .i64 (askE n xs [v])]) ∧ Own edgeE 35 w.heap.size w' u (outL n xs v) ∧ Ext w w' := by
  obtain ⟨q, hq⟩ : ∃ q, q = askE n xs [v] := ⟨_, rfl⟩
  obtain ⟨ol, hol⟩ : ∃ q, q = outL n xs v := ⟨_, rfl⟩
  rw [← hq, ← hol]
  replace h := hide h
  replace hm := hide hm
  replace hol := hide hol
  go_enter Try.func23, Try.ntmps23
  go_upto_region 1 with fail
  obtain ⟨w0, hw0⟩ : ∃ w0, w0 = w.alloc (.cells #[.int .i64 n, .slice A m c] 24) := ⟨_, rfl⟩
  rw [← hw0]
  have hE0 : Ext w w0 := by rw [hw0]; exact (Below.refl _ _).alloc (Nat.le_refl _) _
  have X1 : BoxG w0 w.heap.size n A m c := by rw [hw0]; exact BoxN.new w _ _
  clear hw0
  obtain ⟨pg, hpg⟩ : ∃ b, b = w.heap.size := ⟨_, rfl⟩
  rw [← hpg] at X1 ⊢
  clear hpg
  have k10 := X1.cell 0 (v := .int .i64 n) rfl
  have k11 := X1.cell 1 (v := .slice A m c) rfl
  have s1 := X1.lt
  have hr1 := hide (rd_newAt (e := 3) intE w0 v w0.heap.size rfl)
  have hE1 : Ext w0 (w0.alloc (.cells (intE.cs v).toArray 3)) := (Below.refl _ _).alloc (Nat.le_refl _) _
  have hA := hide (asked_any n A m c xs (some ⟨w0.heap.size, 0, none⟩) 1 1 [v] (w0.alloc (.cells (intE.cs v).toArray 3)) ((h.out.ext hE0).ext hE1) hm.out hl (by have := hr1.out; rw [show (w0.alloc (.cells (intE.cs v).toArray 3)).heap.size = w0.heap.size + 1 by simp]; exact this) rfl (by decide))
  rw [← hq] at hA
  replace hq := hide hq
  clear hr1
  go_wp2_with fail
  refine hA.out.mono ?_
  rintro e w1 ⟨rfl, hE⟩
  have hB := hE0.trans ((hE1.trans (hE.mono hE1.size)).mono hE0.size)
  replace X1 := (X1.ext hE1).ext hE
  clear hA hE1 hE k10 k11 s1
  have k10 := X1.cell 0 (v := .int .i64 n) rfl
  have k11 := X1.cell 1 (v := .slice A m c) rfl
  have s1 := X1.lt
  by_cases hz : q = 0
  · subst hz
    obtain ⟨hg, hvs⟩ := askE_ok hq.out.symm
    have hok : 0 ≤ v ∧ v < n := by
      have : nodeIn n v = true := by simpa using hvs
      unfold nodeIn at this
      rw [Bool.and_eq_true, decide_eq_true_eq, decide_eq_true_eq] at this
      exact this
    obtain ⟨g1, g2, g3, g4, g5⟩ := (rightG_iff n xs).1 hg
    have hpart := out_part g5 v
    have hv : Hid (ol = xs.filter fun x => decide (x.1 = v)) := hide (by rw [hol.out]; unfold outL; rw [if_pos hq.out.symm])
    have i1 := cntI_le xs v
    have i2 := cntI_le xs (v + 1)
    have i3 := cntI_mono xs (show v ≤ v + 1 by omega)
    have ev : IntKind.i64.wrap (v + 1) = v + 1 := IntWalk.i64_in _ (by omega)
    have hlen : (xs.filter fun x => decide (x.1 = v)).length = cntI xs (v + 1) - cntI xs v := by rw [← hpart, List.length_take, List.length_drop]; omega
    rw [← hm.out] at i1 i2
    obtain ⟨i, hi⟩ : ∃ i, i = cntI xs v := ⟨_, rfl⟩
    obtain ⟨j, hj⟩ : ∃ j, j = cntI xs (v + 1) := ⟨_, rfl⟩
    have F1 := hide (fun W hR => from_any n v A m c xs g5 W hR hm.out hl)
    have F2 := hide (fun W hR => from_any n (v + 1) A m c xs g5 W hR hm.out hl)
    rw [← hi] at i1 i3 hpart hlen F1
    rw [← hj] at i2 i3 hpart hlen F2
    replace hi := hide hi
    replace hj := hide hj
    replace hpart := hide hpart
    replace hlen := hide hlen
    clear hg hvs g1 g2 g3 g4 g5 hok
    go_upto_region 4 with fail
    have T : Ext w1 w1.drew := (Below.refl _ _).drew
    refine wp_region_mix (fun W => Below w1.heap.size w1 W) [(0, true), (1, true), (3, true), (4, true), (5, true), (2, false), (6, false), (7, true), (8, true)] (by kernel_rfl) (by kernel_rfl) (by kernel_rfl) (by kernel_rfl) (fun _ _ d _ _ h => by cases d <;> exact h) ?_ ?_
    · exact T
    obtain ⟨wl, hwh⟩ : ∃ x, x = w1.drew := ⟨_, rfl⟩
    rw [← hwh] at T ⊢
    clear hwh
    iterate 5
      apply mix_q rfl rfl
      · intro W hW
        have hcW := (bcell hW).1
        go_simp
        try exact rfl
      simp only [Act.put, List.setIfInBounds_toArray, List.set_cons_zero, List.set_cons_succ]
    refine mix_w rfl rfl (fun K hK => ?_)
    go_simp
    refine (F1.out _ (h.out.ext (hB.trans (T.mono hB.size)))).mono ?_
    rintro e w2 ⟨rfl, hE⟩
    replace T := T.trans (hE.mono T.size)
    refine hK _ _ T ?_
    clear hK K hE
    try simp only [Act.put, List.setIfInBounds_toArray, List.set_cons_zero, List.set_cons_succ]
    refine mix_w rfl rfl (fun K hK => ?_)
    go_simp
    refine (F2.out _ (h.out.ext (hB.trans (T.mono hB.size)))).mono ?_
    rintro e w3 ⟨rfl, hE⟩
    replace T := T.trans (hE.mono T.size)
    refine hK _ _ T ?_
    clear hK K hE
    try simp only [Act.put, List.setIfInBounds_toArray, List.set_cons_zero, List.set_cons_succ]
    iterate 2
      apply mix_q rfl rfl
      · intro W hW
        have hcW := (bcell hW).1
        go_simp
        try exact rfl
      simp only [Act.put, List.setIfInBounds_toArray, List.set_cons_zero, List.set_cons_succ]
    refine mix_nil ?_
    clear F1 F2 ev k10 k11 s1
    replace X1 := X1.ext T
    replace hB := hB.trans (T.mono hB.size)
    have k10 := X1.cell 0 (v := .int .i64 n) rfl
    have k11 := X1.cell 1 (v := .slice A m c) rfl
    have s1 := X1.lt
    have j1 : (i : Int) ≤ (j : Int) := by omega
    have j2 : (j : Int) ≤ (c : Int) := by omega
    have j3 : (j : Int) - (i : Int) = ((j - i : Nat) : Int) := by omega
    go_upto_region 6 with fail
    have hrp := (h.out.ext hB).part i j
    rw [hpart.out, show i * edgeE.sz = i * 3 from rfl] at hrp
    obtain ⟨Ap, hAp⟩ : ∃ P, P = (if j = i then A else Option.map (fun x => x.add (i * 3)) A) := ⟨_, rfl⟩
    rw [← hAp] at hrp ⊢
    clear hAp
    obtain ⟨d, hd⟩ : ∃ d, d = j - i := ⟨_, rfl⟩
    rw [← hd] at hlen ⊢
    have hdl : d ≤ 1000000 := by omega
    clear hd
    replace hrp := hide hrp
    clear k10 k11 s1 X1
    go_wp2_with (at_make; refine wpList_make (base := w3.heap.size) tyEdge rfl _ _ rfl (n := d) zero_Edge_ rfl rfl rfl rfl (by omega) (Nat.le_refl _) ?_)
    intro w4 hown hg
    have hE4 := grown_none hg
    replace hown := hide hown
    clear hg
    have hrp4 := hide (hrp.out.ext hE4)
    go_wp2_with (refine wpList_copy tyEdge rfl (.tmp 34) (.tmp 35) rfl rfl hown.out rfl hrp4.out hlen.out.symm (by rw [List.length_replicate]; exact hlen.out.symm) ?_)
    intro w5 hown5 hg5
    have hE5 : Ext w3 w5 := hown.out.below hE4 hg5 hE4.size
    replace hown5 := hide (hown5.base_le hB.size)
    clear hg5 hown hrp4 hE4
    go_wp2
    go_ret2
    exact ⟨_, rfl, by rw [hv.out]; exact hown5.out, hB.trans (hE5.mono hB.size)⟩
  · have hz' : (q != 0) = true := by simp [hz]
    have hv : Hid (ol = []) := hide (by rw [hol.out]; unfold outL; rw [if_neg (by rw [← hq.out]; exact hz)])
    go_wp2
    go_ret2
    exact ⟨.slice none 0 0, rfl, by rw [hv.out]; exact Own.nil_, hB⟩
end Go.Proofs.Ytoihankkldafoaa
