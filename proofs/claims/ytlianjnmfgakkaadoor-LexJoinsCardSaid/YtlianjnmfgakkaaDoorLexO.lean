/- LexJoins' walk. -/
import Derived.Test.YtlianjnmfgakkaaDoorLexV
import Derived.Test.YtlianjnmfgakkaaDoorLexY
import Derived.Test.YtlianjnmfgakkaaDoorLxJ
import Derived.Test.YtlianjnmfgakkaaDoorLxE
namespace Go.Proofs.YtlianjnmfgakkaaDoor
open Go.RowKit Go.Shelf

set_option maxRecDepth 100000 in
set_option maxHeartbeats 4000000 in
theorem lexJoins_any (s1 s2 : ByteArray) (w : World) (hm1 : s1.size ≤ maxLen) (hm2 : s2.size ≤ maxLen) (hU : LaidU w) :
    Calls Tryd.prog 6 #[.string s1, .string s2] w fun e w' => e = .returned (.bool true) ∧ Ext w w' := by
  have hcut1 := cut_any s1 hm1
  have hcut2 := cut_any s2 hm2
  have hza := cutN_size s1
  have hzb := cutN_size s2
  obtain ⟨a, ha⟩ : ∃ a, a = cutN s1 := ⟨_, rfl⟩
  obtain ⟨b, hb⟩ : ∃ b, b = cutN s2 := ⟨_, rfl⟩
  rw [← ha] at hcut1 hza
  rw [← hb] at hcut2 hzb
  replace ha := hide ha
  replace hb := hide hb
  have hzj : (a ++ ⟨#[10]⟩ ++ b).size = a.size + 1 + b.size := by rw [ByteArray.size_append, ByteArray.size_append]; rfl
  have hza1 : (a ++ (⟨#[10]⟩ : ByteArray)).size = a.size + 1 := by rw [ByteArray.size_append]; rfl
  have hA := all_any a (by omega)
  have hAB := all_any b (by omega)
  have hAJ := all_any (a ++ ⟨#[10]⟩ ++ b) (by omega)
  have hJ := all_joined a b
  obtain ⟨wa1, wa2, wa3⟩ := run_wrong a 0 (Nat.zero_le _)
  obtain ⟨wb1, wb2, wb3⟩ := run_wrong b 0 (Nat.zero_le _)
  have hpl := run_pl b 0 (Nat.zero_le _)
  have hla := all_len a
  have hlb := all_len b
  obtain ⟨RA, hRA⟩ : ∃ R, R = allN a := ⟨_, rfl⟩
  obtain ⟨RB, hRB⟩ : ∃ R, R = allN b := ⟨_, rfl⟩
  obtain ⟨RJ, hRJ⟩ : ∃ R, R = allN (a ++ ⟨#[10]⟩ ++ b) := ⟨_, rfl⟩
  rw [show runN a 0 = RA from hRA.symm] at wa1 wa2 wa3
  rw [show runN b 0 = RB from hRB.symm] at wb1 wb2 wb3 hpl
  rw [← hRA] at hA hJ hla
  rw [← hRB] at hAB hJ hlb
  rw [← hRJ] at hAJ hJ
  clear hRA hRB hRJ
  obtain ⟨X, pa, ea⟩ := RA
  obtain ⟨Y, pb, eb⟩ := RB
  obtain ⟨Z, pz, ez⟩ := RJ
  simp only at hA hAB hAJ hJ wa1 wa2 wa3 wb1 wb2 wb3 hpl hla hlb
  have hs1 : ByteArray.size ⟨#[10]⟩ = 1 := rfl
  have hz1 : ¬ 9223372036854775807 < a.size + ByteArray.size ⟨#[10]⟩ := by omega
  have hz2 : ¬ 9223372036854775807 < (a ++ ⟨#[10]⟩).size + b.size := by omega
  clear hza1
  replace hzj := hide hzj
  replace hA := hide hA
  replace hAB := hide hAB
  replace hAJ := hide hAJ
  replace hJ := hide hJ
  replace hU := hide hU
  replace wa1 := hide wa1
  replace wa2 := hide wa2
  replace wa3 := hide wa3
  replace wb1 := hide wb1
  replace wb2 := hide wb2
  replace wb3 := hide wb3
  replace hpl := hide hpl
  replace hcut1 := hide hcut1
  replace hcut2 := hide hcut2
  go_enter Tryd.func6, Tryd.ntmps6
  go_wp2_with fail
  refine (wakes_any _ hU.out).mono ?_
  rintro e w1 ⟨rfl, hE1⟩
  go_wp2_with fail
  refine (hcut1.out _).mono ?_
  rintro e w2 ⟨rfl, hw⟩
  rw [hw]
  clear hw
  go_wp2_with fail
  refine (hcut2.out _).mono ?_
  rintro e w2 ⟨rfl, hw⟩
  rw [hw]
  clear hw
  go_wp2_with fail
  refine (hA.out _ (hU.out.ext hE1)).mono ?_
  rintro e w3 ⟨A1, n1, c1, rfl, hO1, hE2⟩
  have hE12 := hE1.trans (hE2.mono hE1.size)
  obtain ⟨A', c', hv, hr1, -, -⟩ := hO1.rd
  injection hv with hv1 hv2 hv3
  subst hv1 hv2 hv3
  clear hO1 hE1 hE2
  replace hr1 := hide hr1
  obtain ⟨n1, hn1⟩ : ∃ n, n = X.length := ⟨_, rfl⟩
  rw [← hn1] at hla ⊢
  replace hn1 := hide hn1
  go_wp2_with fail
  refine (hAB.out _ (hU.out.ext hE12)).mono ?_
  rintro e w4 ⟨A2, n2, c2, rfl, hO2, hE3⟩
  have hE13 := hE12.trans (hE3.mono hE12.size)
  obtain ⟨A', c', hv, hr2, -, -⟩ := hO2.rd
  injection hv with hv1 hv2 hv3
  subst hv1 hv2 hv3
  replace hr1 := hide (hr1.out.ext hE3)
  clear hO2 hE12 hE3
  replace hr2 := hide hr2
  obtain ⟨n2, hn2⟩ : ∃ n, n = Y.length := ⟨_, rfl⟩
  rw [← hn2] at hlb ⊢
  replace hn2 := hide hn2
  go_wp2_with fail
  refine (hAJ.out _ (hU.out.ext hE13)).mono ?_
  rintro e wz ⟨A3, n3, c3, rfl, hO3, hE4⟩
  have hE14 := hE13.trans (hE4.mono hE13.size)
  obtain ⟨A', c', hv, hr3, -, -⟩ := hO3.rd
  injection hv with hv1 hv2 hv3
  subst hv1 hv2 hv3
  replace hr1 := hide (hr1.out.ext hE4)
  replace hr2 := hide (hr2.out.ext hE4)
  replace hr3 := hide hr3
  clear hO3 hE13 hE4 hA hAB hAJ hcut1 hcut2
  by_cases ha0 : ea = 0
  · by_cases hb0 : eb = 0
    · have hJ' := hJ.out
      rw [if_pos ha0, if_pos hb0] at hJ'
      injection hJ' with hZ hJ'
      injection hJ' with hpz hez
      subst hZ hez ha0 hb0
      have hpl' := hpl.out
      clear hJ hpz
      have hn3 : (X ++ (⟨4, (a.size : Int), ⟨#[10]⟩, false⟩ : Tok) :: Y.map (shT (a.size + 1))).length = n1 + 1 + n2 := by
        rw [List.length_append, List.length_cons, List.length_map, ← hn1.out, ← hn2.out]; omega
      rw [hn3]
      obtain ⟨Z, hZ⟩ : ∃ Z, Z = X ++ (⟨4, (a.size : Int), ⟨#[10]⟩, false⟩ : Tok) :: Y.map (shT (a.size + 1)) := ⟨_, rfl⟩
      rw [← hZ] at hr3 hn3
      have hzl : ∀ k, k < n1 → Z[k]? = X[k]? := fun k hk => by
        rw [hZ, List.getElem?_append_left (by rw [← hn1.out]; exact hk)]
      have hzm : Z[n1]? = some ⟨4, (a.size : Int), ⟨#[10]⟩, false⟩ := by
        rw [hZ, List.getElem?_append_right (by rw [← hn1.out]; exact Nat.le_refl _), ← hn1.out, Nat.sub_self]
        rfl
      have hzr : ∀ j, Z[n1 + 1 + j]? = (Y[j]?).map (shT (a.size + 1)) := fun j => by
        rw [hZ, List.getElem?_append_right (by rw [← hn1.out]; omega), ← hn1.out, show n1 + 1 + j - n1 = j + 1 by omega, List.getElem?_cons_succ, List.getElem?_map]
      obtain ⟨n3, hn3'⟩ : ∃ n, n = n1 + 1 + n2 := ⟨_, rfl⟩
      rw [← hn3'] at hn3 ⊢
      obtain ⟨b3, o3, rfl, ra3⟩ := hr3.out.at_ (i := n1) (by rw [hn3]; omega)
      have v1 : IntKind.i64.wrap ((n1 : Int) + 1) = ((n1 + 1 : Nat) : Int) := by rw [IntWalk.i64_in _ (by omega)]; omega
      obtain ⟨m1, hm1⟩ : ∃ m, m = n1 + 1 := ⟨_, rfl⟩
      rw [← hm1] at v1
      have v2 : IntKind.i64.wrap ((m1 : Int) + (n2 : Int)) = (n3 : Int) := by rw [IntWalk.i64_in _ (by omega)]; omega
      have v3 : ((n3 : Int) == (n3 : Int)) = true := by simp
      have v4 : (n1 : Int) < (n3 : Int) := by omega
      have v4' : n1 < n3 := by omega
      obtain ⟨x1, x2, x3, x4⟩ := ra3.tok hzm
      have hbk := ra3.1
      have hns := neT_self ⟨4, (a.size : Int), ⟨#[10]⟩, false⟩
      have hn3l : Hid (n3 = n1 + 1 + n2) := hide hn3'
      replace hn3 := hide hn3
      replace hpl' := hide hpl'
      replace hzl := hide hzl
      replace hzm := hide hzm
      replace hzr := hide hzr
      replace hZ := hide hZ
      replace ra3 := hide ra3
      clear hn3' hpl
      go_wp2
      rotate_left
      · exfalso
        rename_i h
        have := hn3l.out
        omega
      rename_i h _ _
      rw [← h]
      clear h
      have hn3b : n3 ≤ 4000 := by have := hn3l.out; omega
      go_loopw [103] (fun i wr => ∃ k : Nat, k ≤ n3 ∧ i = .int .i64 (k : Int) ∧ Ext wz wr) (fun i _ => n3 - (intOf i).toNat)
      case atStart => exact ⟨0, Nat.zero_le _, rfl, Below.refl _ _⟩
      case round =>
        clear v1 v2 v3 v4 v4' x1 x2 x3 x4 hbk hns
        obtain ⟨k, hk, rfl, hB⟩ := hrel
        by_cases hlt : k < n3
        · have hlt' : (k : Int) < (n3 : Int) := by omega
          have hbk := Nat.lt_of_lt_of_le ra3.out.1 hB.size
          rcases Nat.lt_trichotomy k n1 with hk1 | hk1 | hk1
          · obtain ⟨b1, o1, rfl, ra1⟩ := hr1.out.at_ (i := k) (by rw [← hn1.out]; exact hk1)
            obtain ⟨⟨kd, pl, tx, gl⟩, hx⟩ := get_some (xs := X) (i := k) (by rw [← hn1.out]; exact hk1)
            obtain ⟨x1, x2, x3, x4⟩ := (ra3.out.ext hB).tok (i := k) (by rw [hzl.out k hk1]; exact hx)
            have hk1' : (k : Int) < (n1 : Int) := by omega
            obtain ⟨wb, hwb⟩ : ∃ x, x = wr.alloc (.cells #[.int .i64 kd, .int .i64 pl, .string tx, .bool gl] 29) := ⟨_, rfl⟩
            have X15 : BoxN wb wr.heap.size 29 #[.int .i64 kd, .int .i64 pl, .string tx, .bool gl] := by rw [hwb]; exact BoxN.new _ _ _
            have hB2 : Ext wz wb := by rw [hwb]; exact hB.alloc hB.size _
            go_upto_block 2 with fail
            rw [← hwb]
            obtain ⟨p15, hp15⟩ : ∃ b, b = wr.heap.size := ⟨_, rfl⟩
            rw [← hp15] at X15 ⊢
            have hle15 : wz.heap.size ≤ p15 := by have := hB.size; omega
            clear hwb hB hp15 x1 x2 x3 x4 hbk
            have s15 := X15.lt
            have y150 := X15.cell 0 (v := .int .i64 kd) rfl
            have y151 := X15.cell 1 (v := .int .i64 pl) rfl
            have y152 := X15.cell 2 (v := .string tx) rfl
            have y153 := X15.cell 3 (v := .bool gl) rfl
            obtain ⟨z1, z2, z3, z4⟩ := (ra1.ext hB2).tok hx
            have hb1 := Nat.lt_of_lt_of_le ra1.1 hB2.size
            have hns := neT_self ⟨kd, pl, tx, gl⟩
            replace ra1 := hide ra1
            replace hx := hide hx
            replace X15 := hide X15
            go_wp2
            refine wp_region_reads [(0, true), (1, true), (2, true), (3, true), (4, true), (5, true)] (by kernel_rfl) (by kernel_rfl) (by kernel_rfl) (by kernel_rfl) (fun _ _ d _ _ h => by cases d <;> exact h) ?_
            iterate 6
              apply mix_q rfl rfl
              · intro W hW
                subst hW
                go_simp
                try exact rfl
              simp only [Act.put, List.setIfInBounds_toArray, List.set_cons_zero, List.set_cons_succ]
            refine mix_nil ?_
            go_wp2
            refine ⟨?_, ?_⟩
            · first
                | exact ⟨k + 1, by omega, by go_num, hB2.drew⟩
                | ((repeat apply Exists.intro); exact ⟨⟨k + 1, by omega, by go_num, hB2.drew⟩, rfl⟩)
            · first | (simp [intOf, lenV]; omega) | (simp [intOf]; omega) | (simp [intOf]; done)
          · subst hk1
            obtain ⟨x1, x2, x3, x4⟩ := (ra3.out.ext hB).tok hzm.out
            have hk1' : ¬ (k : Int) < (k : Int) := by omega
            obtain ⟨wb, hwb⟩ : ∃ x, x = wr.alloc (.cells #[.int .i64 4, .int .i64 (a.size : Int), .string ⟨#[10]⟩, .bool false] 29) := ⟨_, rfl⟩
            have X15 : BoxN wb wr.heap.size 29 #[.int .i64 4, .int .i64 (a.size : Int), .string ⟨#[10]⟩, .bool false] := by rw [hwb]; exact BoxN.new _ _ _
            have hB2 : Ext wz wb := by rw [hwb]; exact hB.alloc hB.size _
            go_upto_block 2 with fail
            rw [← hwb]
            obtain ⟨p15, hp15⟩ : ∃ b, b = wr.heap.size := ⟨_, rfl⟩
            rw [← hp15] at X15 ⊢
            have hle15 : wz.heap.size ≤ p15 := by have := hB.size; omega
            clear hwb hB hp15 x1 x2 x3 x4 hbk
            have s15 := X15.lt
            replace X15 := hide X15
            go_wp2
            refine ⟨?_, ?_⟩
            · first
                | exact ⟨k + 1, by omega, by go_num, hB2⟩
                | ((repeat apply Exists.intro); exact ⟨⟨k + 1, by omega, by go_num, hB2⟩, rfl⟩)
            · first | (simp [intOf, lenV]; omega) | (simp [intOf]; omega) | (simp [intOf]; done)
          · obtain ⟨j, hj⟩ : ∃ j, j = k - n1 - 1 := ⟨_, rfl⟩
            have hjn : j < n2 := by have := hn3l.out; omega
            obtain ⟨b2, o2, rfl, ra2⟩ := hr2.out.at_ (i := j) (by rw [← hn2.out]; exact hjn)
            obtain ⟨⟨kd, pu, tx, gl⟩, hx⟩ := get_some (xs := Y) (i := j) (by rw [← hn2.out]; exact hjn)
            have hpu := hpl'.out _ (List.mem_of_getElem? hx)
            simp only at hpu
            have hz := hzr.out j
            rw [hx, show n1 + 1 + j = k by omega] at hz
            obtain ⟨x1, x2, x3, x4⟩ := (ra3.out.ext hB).tok hz
            simp only [shT] at x1 x2 x3 x4
            obtain ⟨pl, hpl⟩ : ∃ p : Int, p = ((a.size + 1 : Nat) : Int) + pu := ⟨_, rfl⟩
            rw [← hpl] at x2
            have hk1' : ¬ (k : Int) < (n1 : Int) := by omega
            have hk2' : (n1 : Int) < (k : Int) := by omega
            have v1 : IntKind.i64.wrap ((k : Int) - (n1 : Int)) = ((k - n1 : Nat) : Int) := by rw [IntWalk.i64_in _ (by omega)]; omega
            obtain ⟨kn, hkn⟩ : ∃ m, m = k - n1 := ⟨_, rfl⟩
            rw [← hkn] at v1
            have v2 : IntKind.i64.wrap ((kn : Int) - 1) = (j : Int) := by rw [IntWalk.i64_in _ (by omega)]; omega
            have hjn' : (j : Int) < (n2 : Int) := by omega
            have v3 : IntKind.i64.wrap ((a.size : Int) + 1) = ((a.size + 1 : Nat) : Int) := by rw [IntWalk.i64_in _ (by omega)]; omega
            obtain ⟨sa, hsa⟩ : ∃ m, m = a.size + 1 := ⟨_, rfl⟩
            rw [← hsa] at v3 hpl
            have v4 : IntKind.i64.wrap (pu + (sa : Int)) = pl := by rw [IntWalk.i64_in _ (by omega)]; omega
            replace hpl := hide hpl
            replace hsa := hide hsa
            replace hkn := hide hkn
            replace hj := hide hj
            replace hz := hide hz
            replace hx := hide hx
            obtain ⟨wb, hwb⟩ : ∃ x, x = wr.alloc (.cells #[.int .i64 kd, .int .i64 pl, .string tx, .bool gl] 29) := ⟨_, rfl⟩
            have X15 : BoxN wb wr.heap.size 29 #[.int .i64 kd, .int .i64 pl, .string tx, .bool gl] := by rw [hwb]; exact BoxN.new _ _ _
            have hB2 : Ext wz wb := by rw [hwb]; exact hB.alloc hB.size _
            go_upto_block 2 with fail
            rw [← hwb]
            obtain ⟨p15, hp15⟩ : ∃ b, b = wr.heap.size := ⟨_, rfl⟩
            rw [← hp15] at X15 ⊢
            have hle15 : wz.heap.size ≤ p15 := by have := hB.size; omega
            clear hwb hB hp15 x1 x2 x3 x4 hbk
            obtain ⟨z1, z2, z3, z4⟩ := (ra2.ext hB2).tok hx.out
            have hb1 := Nat.lt_of_lt_of_le ra2.1 hB2.size
            replace ra2 := hide ra2
            obtain ⟨wc, hwc⟩ : ∃ x, x = wb.alloc (.cells #[.int .i64 kd, .int .i64 pu, .string tx, .bool gl] 29) := ⟨_, rfl⟩
            have X16 : BoxN wc wb.heap.size 29 #[.int .i64 kd, .int .i64 pu, .string tx, .bool gl] := by rw [hwc]; exact BoxN.new _ _ _
            have hB3 : Ext wz wc := by rw [hwc]; exact hB2.alloc hB2.size _
            have X15' : BoxN wc p15 29 #[.int .i64 kd, .int .i64 pl, .string tx, .bool gl] := by rw [hwc]; exact X15.alloc _
            have hne : p15 ≠ wb.heap.size := Nat.ne_of_lt X15.lt
            go_upto_region 21 with fail
            rw [← hwc]
            have hle16 : wz.heap.size ≤ wb.heap.size := hB2.size
            obtain ⟨p16, hp16⟩ : ∃ b, b = wb.heap.size := ⟨_, rfl⟩
            rw [← hp16] at X16 hne hle16 ⊢
            clear hwc hp16 z1 z2 z3 z4 hb1 X15 hB2
            have hne' : p16 ≠ p15 := Ne.symm hne
            have s15 := X15'.lt
            have y150 := X15'.cell 0 (v := .int .i64 kd) rfl
            have y151 := X15'.cell 1 (v := .int .i64 pl) rfl
            have y152 := X15'.cell 2 (v := .string tx) rfl
            have y153 := X15'.cell 3 (v := .bool gl) rfl
            have s16 := X16.lt
            have f161 := X16.free 1
            have y160 := X16.cell 0 (v := .int .i64 kd) rfl
            have y161 := X16.cell 1 (v := .int .i64 pu) rfl
            have y162 := X16.cell 2 (v := .string tx) rfl
            have y163 := X16.cell 3 (v := .bool gl) rfl
            have hB4 := hide (hB3.setCell (p := ⟨p16, 1, none⟩) hle16 (.int .i64 pl))
            have hns := neT_self ⟨kd, pl, tx, gl⟩
            replace X15' := hide X15'
            replace X16 := hide X16
            clear hB3
            go_wp2
            refine ⟨?_, ?_⟩
            · first
                | exact ⟨k + 1, by omega, by go_num, hB4.out⟩
                | ((repeat apply Exists.intro); exact ⟨⟨k + 1, by omega, by go_num, hB4.out⟩, rfl⟩)
            · first | (simp [intOf, lenV]; omega) | (simp [intOf]; omega) | (simp [intOf]; done)
        · have hlt' : ¬ (k : Int) < (n3 : Int) := by omega
          go_wp2
          go_ret
          exact ⟨rfl, hE14.trans (hB.mono hE14.size)⟩
    · have hJ' := hJ.out
      rw [if_pos ha0, if_neg hb0] at hJ'
      injection hJ' with hZ hJ'
      injection hJ' with hpz hez
      subst hZ hez ha0
      have hpa := wa2.out rfl
      have hpb := (wb3.out hb0).1
      have v1 : IntKind.i64.wrap ((pa : Int) + 1) = ((pa + 1 : Nat) : Int) := by rw [IntWalk.i64_in _ (by omega)]; omega
      obtain ⟨m1, hm1⟩ : ∃ m, m = pa + 1 := ⟨_, rfl⟩
      rw [← hm1] at v1
      have v2 : IntKind.i64.wrap ((m1 : Int) + (pb : Int)) = (pz : Int) := by rw [IntWalk.i64_in _ (by omega)]; omega
      have e1 : (ez == 0) = false := beq_eq_false_iff_ne.2 hb0
      have e2 : (ez != 0) = true := by rw [bne, e1]; rfl
      have e3 : (ez == ez) = true := by simp
      have e4 : ((pz : Int) == (pz : Int)) = true := by simp
      clear hJ
      replace hpz := hide hpz
      replace hm1 := hide hm1
      replace hpa := hide hpa
      replace hpb := hide hpb
      go_wp2
      go_ret
      exact ⟨rfl, hE14⟩
  · have hJ' := hJ.out
    rw [if_neg ha0] at hJ'
    injection hJ' with hZ hJ'
    injection hJ' with hpz hez
    subst hZ hez hpz
    have e1 : (ez == 0) = false := beq_eq_false_iff_ne.2 ha0
    have e2 : (ez != 0) = true := by rw [bne, e1]; rfl
    have e3 : (ez == ez) = true := by simp
    have e4 : ((pz : Int) == (pz : Int)) = true := by simp
    clear hJ
    go_wp2
    go_ret
    exact ⟨rfl, hE14⟩
end Go.Proofs.YtlianjnmfgakkaaDoor
