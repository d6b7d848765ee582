/- The document's Depth of stage 07. -/
import Derived.Test.YtepgpiolhiidiaaTopX
namespace Go.Proofs.Ytepgpiolhiidiaa
open Go.RowKit Go.Shelf
attribute [local go_sem] Oper.semAt_some
theorem rounds_succ (xs : List (Int × Int × Int)) (k : Nat) : rounds xs (k + 1) = xs.foldl relax (rounds xs k) := rfl
theorem fold_snoc {xs : List (Int × Int × Int)} {i : Nat} {e : Int × Int × Int} (hx : xs[i]? = some e) (d : Int → Int) : (xs.take (i + 1)).foldl relax d = relax ((xs.take i).foldl relax d) e := by
  rw [take_snoc hx, List.foldl_append]
  rfl
set_option maxRecDepth 100000 in
set_option maxHeartbeats 4000000 in
theorem refDepth_any (nn : Nat) (A : Option Addr) (m c : Nat) (xs : List (Int × Int × Int)) (w : World) (hnn : nn ≤ 300) (h : Rd edgeE w.heap.size w A xs) (hm : m = xs.length) (hl : m ≤ 1000000) (hfr : ∀ e ∈ xs, (0 ≤ e.1 ∧ e.1 < nn) ∧ 0 ≤ e.2.1 ∧ e.2.1 < nn) :
    Calls Try.prog 21 #[.agg #[.int .i64 nn, .slice A m c]] w fun e w' => ∃ v, e = .returned v ∧ Own intE 3 w.heap.size w' v (rowF nn (dR (rounds xs nn))) ∧ Ext w w' := by
  replace h := hide h
  replace hm := hide hm
  replace hfr := hide hfr
  go_enter Try.func21, Try.ntmps21
  go_upto_region 1 with fail
  obtain ⟨w0, hw0⟩ : ∃ w0, w0 = w.alloc (.cells #[.int .i64 nn, .slice A m c] 24) := ⟨_, rfl⟩
  rw [← hw0]
  have hE0 : Ext w w0 := by rw [hw0]; exact (Below.refl _ _).alloc (Nat.le_refl _) _
  have X1 : BoxG w0 w.heap.size nn A m c := by rw [hw0]; exact BoxN.new w _ _
  clear hw0
  obtain ⟨pg, hpg⟩ : ∃ b, b = w.heap.size := ⟨_, rfl⟩
  rw [← hpg] at X1 ⊢
  clear hpg
  have k10 := X1.cell 0 (v := .int .i64 nn) rfl
  have s1 := X1.lt
  go_wp2_with (at_make; refine wpList_make (base := w0.heap.size) tyInt rfl _ _ rfl (n := nn) zero_intT rfl rfl rfl rfl (by omega) (Nat.le_refl _) ?_)
  intro w2 hown hgr
  have hE2 := grown_none hgr
  obtain ⟨cR, hcR⟩ : ∃ q, q = w0.heap.size := ⟨_, rfl⟩
  have hown1 : Hid (Own intE 3 w0.heap.size w2 (.slice (some ⟨cR, 0, none⟩) nn nn) (rowF nn (dR (rounds xs 0)))) := hide (by rw [hcR]; have h1 := hown; rw [dR_zero] at h1; exact h1)
  rw [← hcR]
  clear hown hgr hcR k10 s1
  have k10 := (X1.ext hE2).cell 0 (v := .int .i64 nn) rfl
  have s1 := (X1.ext hE2).lt
  have hb0 : Hid (∀ u, 0 ≤ rounds xs 0 u ∧ rounds xs 0 u ≤ ((0 * m : Nat) : Int)) := hide (fun u => by rw [Nat.zero_mul]; exact ⟨Int.le_refl _, Int.le_refl _⟩)
  go_wp2
  clear k10 s1
  go_loopw [11] (fun q wr => ∃ k : Nat, k ≤ nn ∧ q = .int .i64 k ∧ Hid (∀ u, 0 ≤ rounds xs k u ∧ rounds xs k u ≤ ((k * m : Nat) : Int)) ∧ Hid (Own intE 3 w0.heap.size wr (.slice (some ⟨cR, 0, none⟩) nn nn) (rowF nn (dR (rounds xs k)))) ∧ Ext w0 wr) (fun q _ => nn - (intOf q).toNat)
  case atStart => exact ⟨0, Nat.zero_le _, rfl, hb0, hown1, hE2⟩
  case round =>
    clear hb0 hown1 hE2
    obtain ⟨k, hk, rfl, hb, hO, hE⟩ := hrel
    by_cases hlt : k < nn
    · have hlt' : (k : Int) < (nn : Int) := by omega
      have hkm : k * m ≤ 300000000 := Nat.le_trans (Nat.mul_le_mul (show k ≤ 300 by omega) hl) (by omega)
      have hks : (k + 1) * m = k * m + m := Nat.succ_mul k m
      obtain ⟨km, hkme⟩ : ∃ q, q = k * m := ⟨_, rfl⟩
      rw [← hkme] at hb hkm hks
      obtain ⟨d0, hd0⟩ : ∃ d, d = rounds xs k := ⟨_, rfl⟩
      have hd1 : Hid (rounds xs (k + 1) = xs.foldl relax d0) := hide (by rw [rounds_succ, hd0])
      rw [← hd0] at hb hO
      replace hd0 := hide hd0
      replace hkme := hide hkme
      replace hks := hide hks
      have k11 := (X1.ext hE).cell 1 (v := .slice A m c) rfl
      have s1 := (X1.ext hE).lt
      have hb1 : Hid (∀ u, 0 ≤ (xs.take 0).foldl relax d0 u ∧ (xs.take 0).foldl relax d0 u ≤ ((km + 0 : Nat) : Int)) := hide (fun u => by have := hb.out u; simpa using this)
      have hO1 : Hid (Own intE 3 w0.heap.size wr (.slice (some ⟨cR, 0, none⟩) nn nn) (rowF nn (dR ((xs.take 0).foldl relax d0)))) := hide (by simpa using hO.out)
      go_wp2
      clear k11 s1 hb hO
      go_loopw [16] (fun q wx => ∃ i : Nat, i ≤ m ∧ q = .int .i64 i ∧ Hid (∀ u, 0 ≤ (xs.take i).foldl relax d0 u ∧ (xs.take i).foldl relax d0 u ≤ ((km + i : Nat) : Int)) ∧ Hid (Own intE 3 w0.heap.size wx (.slice (some ⟨cR, 0, none⟩) nn nn) (rowF nn (dR ((xs.take i).foldl relax d0)))) ∧ Ext w0 wx) (fun q _ => m - (intOf q).toNat)
      case atStart => exact ⟨0, Nat.zero_le _, rfl, hb1, hO1, hE⟩
      case round =>
        clear hb1 hO1 hE
        obtain ⟨i, hi, rfl, hb, hO, hE⟩ := hrel
        by_cases hlt2 : i < m
        · have hlt2' : (i : Int) < (m : Int) := by omega
          obtain ⟨bk, off, rfl, ra⟩ := h.out.at_ (i := i) (by rw [← hm.out]; exact hlt2)
          obtain ⟨⟨p1, p2, p3⟩, hx⟩ := get_some (xs := xs) (i := i) (by rw [← hm.out]; exact hlt2)
          obtain ⟨hx1, hx2, hx3⟩ := (ra.below (hE0.trans (hE.mono hE0.size))).edge hx
          have hbk : bk < wr.heap.size := cell_lt hx1
          obtain ⟨⟨ha0, han⟩, hp0, hpn⟩ := hfr.out _ (List.mem_of_getElem? hx)
          simp only at ha0 han hp0 hpn
          obtain ⟨i1, rfl⟩ : ∃ i1 : Nat, p1 = (i1 : Int) := ⟨p1.toNat, by omega⟩
          obtain ⟨i2, rfl⟩ : ∃ i2 : Nat, p2 = (i2 : Int) := ⟨p2.toNat, by omega⟩
          have hin1 : i1 < nn := by omega
          have hin2 : i2 < nn := by omega
          have hfs := fold_snoc hx d0
          obtain ⟨d, hd⟩ : ∃ d, d = (xs.take i).foldl relax d0 := ⟨_, rfl⟩
          rw [← hd] at hfs hO hb
          obtain ⟨y, hy⟩ : ∃ y, y = d (i2 : Int) := ⟨_, rfl⟩
          obtain ⟨z, hz⟩ : ∃ z, z = d (i1 : Int) := ⟨_, rfl⟩
          have hyb := hb.out (i2 : Int)
          have hzb := hb.out (i1 : Int)
          rw [← hy] at hyb
          rw [← hz] at hzb
          have ew : IntKind.i64.wrap (z + 1) = z + 1 := IntWalk.i64_in _ (by omega)
          have hb2 : Hid (∀ u, 0 ≤ (xs.take (i + 1)).foldl relax d0 u ∧ (xs.take (i + 1)).foldl relax d0 u ≤ ((km + (i + 1) : Nat) : Int)) := hide (fun u => by
            rw [hfs, relax_max]
            have h1 := hb.out u
            have h2 := hb.out (i1 : Int)
            simp only
            split <;> omega)
          obtain ⟨w9, hw9⟩ : ∃ x, x = wr.alloc (.cells #[.int .i64 i1, .int .i64 i2, .int .i64 p3] 50) := ⟨_, rfl⟩
          have hE9 : Ext wr w9 := by rw [hw9]; exact (Below.refl _ _).alloc (Nat.le_refl _) _
          have X5 : BoxN w9 wr.heap.size 50 #[.int .i64 i1, .int .i64 i2, .int .i64 p3] := by rw [hw9]; exact BoxN.new _ _ _
          have hE19 := hE.trans (hE9.mono hE.size)
          have hown9 := hO.out.ext hE9
          obtain ⟨g9, hg9, hs9, hc9⟩ := hown9.at1 hin2
          injection hg9 with hg9
          injection hg9 with hg9
          subst hg9
          obtain ⟨g8, hg8, -, hc8⟩ := hown9.at1 hin1
          injection hg8 with hg8
          injection hg8 with hg8
          subst hg8
          rw [show gi (rowF nn (dR d)) i2 = y by rw [hy]; exact gi_some (rowF_get hin2)] at hc9
          rw [show gi (rowF nn (dR d)) i1 = z by rw [hz]; exact gi_some (rowF_get hin1)] at hc8
          have k50 := X5.cell 0 (v := .int .i64 i1) rfl
          have k51 := X5.cell 1 (v := .int .i64 i2) rfl
          have s5 := X5.lt
          have q0 : (0 : Int) ≤ (i2 : Int) := by omega
          have q1 : (i2 : Int) < (nn : Int) := by omega
          have q2 : (0 : Int) ≤ (i1 : Int) := by omega
          have q3 : (i1 : Int) < (nn : Int) := by omega
          obtain ⟨pe, hpe⟩ : ∃ q, q = wr.heap.size := ⟨_, rfl⟩
          have hrl : ∀ j : Nat, dR ((xs.take (i + 1)).foldl relax d0) j = if j = i2 then (if y < z + 1 then z + 1 else y) else dR d j := fun j => by
            unfold dR
            rw [hfs]
            unfold relax
            simp only
            by_cases hji : j = i2
            · subst hji
              rw [if_pos rfl, if_pos rfl, hy, hz]
            · rw [if_neg hji, if_neg (show ¬ (j : Int) = (i2 : Int) by omega)]
          replace hx := hide hx
          replace ra := hide ra
          replace hrl := hide hrl
          replace hfs := hide hfs
          replace hd := hide hd
          replace hy := hide hy
          replace hz := hide hz
          go_upto_region 7 with fail
          rw [← hw9, ← hpe]
          rw [← hpe] at k50 k51 s5 X5
          clear hw9 hpe hx1 hx2 hx3 hbk hE hE9
          refine wp_region_reads [(0, true), (1, true), (2, true), (3, true), (4, true), (5, true), (6, true), (7, true), (8, true), (9, true), (10, true), (11, true)] (by kernel_rfl) (by kernel_rfl) (by kernel_rfl) (by kernel_rfl) (fun _ _ d _ _ h => by cases d <;> exact h) ?_
          iterate 12
            apply mix_q rfl rfl
            · intro W hW
              subst hW
              go_simp
              try exact rfl
            simp only [Act.put, List.setIfInBounds_toArray, List.set_cons_zero, List.set_cons_succ]
          refine mix_nil ?_
          by_cases hyz : y < z + 1
          · obtain ⟨g, u, hg0, hgb, -, hg3, hg4, hS, cur, hcur⟩ := hown9.setInt hin2 (z + 1)
            injection hg0 with hg1
            injection hg1 with hg2
            subst hg2
            have hrw : rowF nn (dR ((xs.take (i + 1)).foldl relax d0)) = (rowF nn (dR d)).set i2 (z + 1) := by
              rw [rowF_set]
              refine rowF_congr fun j _ => ?_
              rw [hrl.out j, if_pos hyz]
            rw [← hrw] at hS
            obtain ⟨wl, hwl⟩ : ∃ q, q = w9.drew := ⟨_, rfl⟩
            rw [← hwl]
            have c8' : wl.cell? ⟨cR, i1, none⟩ = some (.int .i64 z) := by rw [hwl]; exact hc8
            have g3' : wl.cell? ⟨cR, i2, none⟩ = some (.int .i64 y) := by rw [hwl]; exact hc9
            have g4' : wl.frozen? ⟨cR, i2, none⟩ = false := by rw [hwl]; exact hg4
            have s9' : cR < wl.heap.size := by rw [hwl]; exact hs9
            have k50' : wl.cell? ⟨pe, 0, none⟩ = some (.int .i64 i1) := by rw [hwl]; exact k50
            have k51' : wl.cell? ⟨pe, 1, none⟩ = some (.int .i64 i2) := by rw [hwl]; exact k51
            have s5' : pe < wl.heap.size := by rw [hwl]; exact s5
            have hS2 : Hid (Own intE 3 w0.heap.size (wl.setCell ⟨cR, i2, none⟩ (.int .i64 (z + 1))) (.slice (some ⟨cR, 0, none⟩) nn nn) (rowF nn (dR ((xs.take (i + 1)).foldl relax d0)))) := hide (by rw [hwl]; exact hS)
            have hEs : Hid (Ext w0 (wl.setCell ⟨cR, i2, none⟩ (.int .i64 (z + 1)))) := hide (by rw [hwl]; exact hE19.drew.setCell (p := ⟨cR, i2, none⟩) hgb _)
            clear hwl hc8 hc9 hg3 hg4 hs9 k50 k51 s5 hS hrw hcur hown9 X5 hO hb hE19
            go_upto_region 8 with fail
            refine wp_only ?_
            refine wp_region_mixL (fun W => W = wl.drew) [10] [] [(0, true), (1, true), (2, true), (3, true), (4, true), (5, true), (6, true), (7, true), (8, true), (9, true), (10, false)] (by kernel_rfl) (by kernel_rfl) (by kernel_rfl) (by kernel_rfl) (by kernel_rfl) (by kernel_rfl) (fun _ _ d _ _ h => by cases h.1) rfl ?_
            iterate 10
              apply mixL_q rfl rfl rfl
              · intro W hW
                subst hW
                go_simp
                try exact rfl
              simp only [Act.put, List.setIfInBounds_toArray, List.set_cons_zero, List.set_cons_succ]
            iterate 1
              refine mixL_w rfl rfl (fun K hK => ?_)
              go_simp
              refine hK _ _ (fun h => absurd (by decide) h) ?_
              clear hK K
              try simp only [Act.put, List.setIfInBounds_toArray, List.set_cons_zero, List.set_cons_succ]
            refine mixL_nil ⟨rfl, ?_⟩
            go_wp2
            refine ⟨?_, ?_⟩
            · exact ⟨i + 1, by omega, by first | omega | go_num, hb2, hide hS2.out.drew, hEs.out.drew⟩
            · simp [intOf]; omega
          · have hrw : rowF nn (dR ((xs.take (i + 1)).foldl relax d0)) = rowF nn (dR d) := by
              refine rowF_congr fun j _ => ?_
              rw [hrl.out j, if_neg hyz]
              split
              · rename_i hji
                rw [hji, hy.out]
                rfl
              · rfl
            rw [← hrw] at hown9
            have hown9d := hide hown9.drew
            have hEd := hide hE19.drew
            clear hrw hown9 hO hb X5 hE19
            go_wp2
            refine ⟨?_, ?_⟩
            · exact ⟨i + 1, by omega, by first | omega | go_num, hb2, hown9d, hEd.out⟩
            · simp [intOf]; omega
        · have hlt2' : ¬ (i : Int) < (m : Int) := by omega
          have him : i = m := by omega
          have hil : xs.take i = xs := List.take_of_length_le (by rw [← hm.out]; omega)
          rw [hil, ← hd1.out] at hb hO
          have hb2 : Hid (∀ u, 0 ≤ rounds xs (k + 1) u ∧ rounds xs (k + 1) u ≤ (((k + 1) * m : Nat) : Int)) := hide (fun u => by have := hb.out u; rw [him, ← hks.out] at this; exact this)
          clear hb hil him
          go_wp2
          refine ⟨?_, ?_⟩
          · first
              | exact ⟨k + 1, by omega, by first | omega | go_num, hb2, hO, hE⟩
              | ((repeat apply Exists.intro); exact ⟨⟨k + 1, by omega, by first | omega | go_num, hb2, hO, hE⟩, rfl⟩)
          · first | (simp [intOf, lenV]; omega) | (simp [intOf]; omega) | (simp [intOf]; done)
    · have hlt' : ¬ (k : Int) < (nn : Int) := by omega
      have hkn : k = nn := by omega
      have hOf : Hid (Own intE 3 w.heap.size wr (.slice (some ⟨cR, 0, none⟩) nn nn) (rowF nn (dR (rounds xs nn)))) := hide (by have := hO.out; rw [hkn] at this; exact this.base_le hE0.size)
      have hEf := hide (hE0.trans (hE.mono hE0.size))
      clear hO hb hkn hE
      go_wp2
      go_ret
      exact ⟨_, rfl, hOf.out, hEf.out⟩
end Go.Proofs.Ytepgpiolhiidiaa
