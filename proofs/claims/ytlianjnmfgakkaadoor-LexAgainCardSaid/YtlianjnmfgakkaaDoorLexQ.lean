/- LexAgain's walk. -/
import Derived.Test.YtlianjnmfgakkaaDoorLexV
import Derived.Test.YtlianjnmfgakkaaDoorLexY
import Derived.Test.YtlianjnmfgakkaaDoorLxR
namespace Go.Proofs.YtlianjnmfgakkaaDoor
open Go.RowKit Go.Shelf

theorem strip_at {l' l : List Tok} (h : l'.map strip = l.map strip) {k : Nat} {x : Tok} (hx : l[k]? = some x) : ∃ p, l'[k]? = some { x with pl := p } := by
  have h1 : (l'.map strip)[k]? = (l.map strip)[k]? := by rw [h]
  rw [List.getElem?_map, List.getElem?_map, hx] at h1
  cases hy : l'[k]? with
  | none => rw [hy] at h1; cases h1
  | some y =>
    rw [hy] at h1
    simp only [Option.map_some, Option.some.injEq] at h1
    obtain ⟨a, p, c, d⟩ := y
    obtain ⟨a', p', c', d'⟩ := x
    unfold strip at h1
    simp only [Tok.mk.injEq, true_and] at h1
    obtain ⟨rfl, rfl, rfl⟩ := h1
    exact ⟨p, rfl⟩
set_option maxRecDepth 100000 in
set_option maxHeartbeats 4000000 in
theorem lexAgain_any (s1 : ByteArray) (w : World) (hm1 : s1.size ≤ maxLen) (hU : LaidU w) :
    Calls Tryd.prog 5 #[.string s1] w fun e w' => e = .returned (.bool true) ∧ Ext w w' := by
  have hcut1 := cut_any s1 hm1
  have hza := cutN_size s1
  obtain ⟨a, ha⟩ : ∃ a, a = cutN s1 := ⟨_, rfl⟩
  rw [← ha] at hcut1 hza
  replace ha := hide ha
  have hA := all_any a (by omega)
  have hla := all_len a
  have htx := all_texts a 0 (Nat.zero_le _)
  have hsp := spell_small a 0 (Nat.zero_le _) true
  obtain ⟨l', hag, hst⟩ := all_again a
  obtain ⟨RA, hRA⟩ : ∃ R, R = allN a := ⟨_, rfl⟩
  rw [show runN a 0 = RA from hRA.symm] at htx hsp
  rw [← hRA] at hA hla hag hst
  clear hRA
  obtain ⟨l, pa, ea⟩ := RA
  simp only at hA hla hag hst htx hsp
  have hSz : (spellN l).size ≤ 3000 := by
    have : (spellN l).size ≤ 2 * (a.size - 0) := hsp
    omega
  clear hsp
  have hA2 := all_any (spellN l) (by omega)
  rw [hag] at hA2
  simp only at hA2
  have hll : l'.length = l.length := by
    have := congrArg List.length hst
    simpa using this
  have hsame : spellN l' = spellN l := by
    unfold spellN
    rw [← spell_strip true l', hst, spell_strip]
  obtain ⟨S, hS⟩ : ∃ S, S = spellN l := ⟨_, rfl⟩
  rw [← hS] at hA2 hSz
  have hTx : Hid (∀ t ∈ l, t.text.size ≤ 1000000) := hide (fun t ht => Nat.le_trans (htx t ht) (by omega))
  have hTx' : Hid (∀ t ∈ l', t.text.size ≤ 1000000) := hide (fun t ht => by
    obtain ⟨i, hi, rfl⟩ := List.getElem_of_mem ht
    have hil : i < l.length := by omega
    obtain ⟨p, hp⟩ := strip_at hst (k := i) (List.getElem?_eq_getElem hil)
    rw [List.getElem?_eq_getElem hi] at hp
    injection hp with hp
    rw [hp]
    exact hTx.out l[i] (List.getElem_mem hil))
  clear hag htx
  replace hA := hide hA
  replace hA2 := hide hA2
  replace hU := hide hU
  replace hcut1 := hide hcut1
  replace hst := hide hst
  replace hll := hide hll
  replace hsame := hide hsame
  replace hS := hide hS
  go_enter Tryd.func5, Tryd.ntmps5
  go_wp2_with fail
  refine (wakes_any _ hU.out).mono ?_
  rintro e w1 ⟨rfl, hE1⟩
  go_wp2_with fail
  refine (hcut1.out _).mono ?_
  rintro e w2 ⟨rfl, hw⟩
  rw [hw]
  clear hw
  go_wp2_with fail
  refine (hA.out _ (hU.out.ext hE1)).mono ?_
  rintro e w3 ⟨A1, n1, c1, rfl, hO1, hE2⟩
  have hE12 := hE1.trans (hE2.mono hE1.size)
  obtain ⟨A', c', hv, hr1, -, -⟩ := hO1.rd
  injection hv with hv1 hv2 hv3
  subst hv1 hv2 hv3
  clear hO1 hE1 hE2 hA hcut1
  replace hr1 := hide hr1
  obtain ⟨n, hn⟩ : ∃ n, n = l.length := ⟨_, rfl⟩
  rw [← hn] at hla hll ⊢
  replace hn := hide hn
  by_cases ha0 : ea = 0
  · subst ha0
    go_wp2_with fail
    refine (spell_any A1 n c1 l _ hr1.out hn.out (by omega) hTx.out).mono ?_
    rintro e w4 ⟨rfl, hE3⟩
    rw [← hS.out]
    have hE13 := hE12.trans (hE3.mono hE12.size)
    replace hr1 := hide (hr1.out.ext hE3)
    clear hE3 hE12
    go_wp2_with fail
    refine (hA2.out _ (hU.out.ext hE13)).mono ?_
    rintro e wz ⟨A2, n2, c2, rfl, hO2, hE4⟩
    have hE14 := hE13.trans (hE4.mono hE13.size)
    obtain ⟨A', c', hv, hr2, -, -⟩ := hO2.rd
    injection hv with hv1 hv2 hv3
    subst hv1 hv2 hv3
    replace hr1 := hide (hr1.out.ext hE4)
    clear hO2 hE13 hE4 hA2
    rw [hll.out]
    replace hr2 := hide hr2
    have hn' : Hid (n = l'.length) := hide hll.out.symm
    go_wp2
    go_loopw [40] (fun i wr => ∃ k : Nat, k ≤ n ∧ i = .int .i64 (k : Int) ∧ Ext wz wr) (fun i _ => n - (intOf i).toNat)
    case atStart => exact ⟨0, Nat.zero_le _, rfl, Below.refl _ _⟩
    case round =>
      obtain ⟨k, hk, rfl, hB⟩ := hrel
      by_cases hlt : k < n
      · have hlt' : (k : Int) < (n : Int) := by omega
        obtain ⟨b1, o1, rfl, ra1⟩ := hr1.out.at_ (i := k) (by rw [← hn.out]; exact hlt)
        obtain ⟨b2, o2, rfl, ra2⟩ := hr2.out.at_ (i := k) (by rw [← hn'.out]; exact hlt)
        obtain ⟨⟨kd, p1, tx, gl⟩, hx⟩ := get_some (xs := l) (i := k) (by rw [← hn.out]; exact hlt)
        obtain ⟨p2, hy⟩ := strip_at hst.out hx
        simp only at hy
        obtain ⟨x1, x2, x3, x4⟩ := (ra1.ext hB).tok hx
        have hb1 := Nat.lt_of_lt_of_le ra1.1 hB.size
        replace hx := hide hx
        obtain ⟨wb, hwb⟩ : ∃ x, x = wr.alloc (.cells #[.int .i64 kd, .int .i64 p1, .string tx, .bool gl] 29) := ⟨_, rfl⟩
        have X9 : BoxN wb wr.heap.size 29 #[.int .i64 kd, .int .i64 p1, .string tx, .bool gl] := by rw [hwb]; exact BoxN.new _ _ _
        have hB2 : Ext wz wb := by rw [hwb]; exact hB.alloc hB.size _
        go_upto_region 12 with fail
        rw [← hwb]
        obtain ⟨p9, hp9⟩ : ∃ b, b = wr.heap.size := ⟨_, rfl⟩
        rw [← hp9] at X9 ⊢
        clear hwb hB hp9 x1 x2 x3 x4 hb1
        obtain ⟨y1, y2, y3, y4⟩ := (ra2.ext hB2).tok hy
        have hb2 := Nat.lt_of_lt_of_le ra2.1 hB2.size
        replace hy := hide hy
        obtain ⟨wc, hwc⟩ : ∃ x, x = wb.alloc (.cells #[.int .i64 kd, .int .i64 p2, .string tx, .bool gl] 29) := ⟨_, rfl⟩
        have X10 : BoxN wc wb.heap.size 29 #[.int .i64 kd, .int .i64 p2, .string tx, .bool gl] := by rw [hwc]; exact BoxN.new _ _ _
        have hB3 : Ext wz wc := by rw [hwc]; exact hB2.alloc hB2.size _
        replace X9 : BoxN wc p9 29 #[.int .i64 kd, .int .i64 p1, .string tx, .bool gl] := by rw [hwc]; exact X9.alloc _
        replace ra1 := hide ra1
        replace ra2 := hide ra2
        go_upto_region 13 with fail
        rw [← hwc]
        obtain ⟨p10, hp10⟩ : ∃ b, b = wb.heap.size := ⟨_, rfl⟩
        rw [← hp10] at X10 ⊢
        clear hwc hB2 hp10 y1 y2 y3 y4 hb2
        have s9 := X9.lt
        have y90 := X9.cell 0 (v := .int .i64 kd) rfl
        have y92 := X9.cell 2 (v := .string tx) rfl
        have y93 := X9.cell 3 (v := .bool gl) rfl
        have s10 := X10.lt
        have y100 := X10.cell 0 (v := .int .i64 kd) rfl
        have y102 := X10.cell 2 (v := .string tx) rfl
        have y103 := X10.cell 3 (v := .bool gl) rfl
        replace X9 := hide X9
        replace X10 := hide X10
        go_wp2
        refine ⟨?_, ?_⟩
        · first
            | exact ⟨k + 1, by omega, by go_num, hB3⟩
            | ((repeat apply Exists.intro); exact ⟨⟨k + 1, by omega, by go_num, hB3⟩, rfl⟩)
        · first | (simp [intOf, lenV]; omega) | (simp [intOf]; omega) | (simp [intOf]; done)
      · have hlt' : ¬ (k : Int) < (n : Int) := by omega
        replace hr1 := hide (hr1.out.ext hB)
        replace hr2 := hide (hr2.out.ext hB)
        have hBE := hE14.trans (hB.mono hE14.size)
        clear hB hE14
        go_wp2_with fail
        refine (spell_any A2 n c2 l' _ hr2.out hn'.out (by omega) hTx'.out).mono ?_
        rintro e w5 ⟨rfl, hE5⟩
        rw [hsame.out, ← hS.out]
        have hBE2 := hBE.trans (hE5.mono hBE.size)
        replace hr1 := hide (hr1.out.ext hE5)
        clear hE5 hBE
        go_wp2_with fail
        refine (spell_any A1 n c1 l _ hr1.out hn.out (by omega) hTx.out).mono ?_
        rintro e w6 ⟨rfl, hE6⟩
        rw [← hS.out]
        have hBE3 := hBE2.trans (hE6.mono hBE2.size)
        clear hE6 hBE2
        go_wp2
        go_ret
        exact ⟨by simp, hBE3⟩
  · have e1 : (ea == 0) = false := beq_eq_false_iff_ne.2 ha0
    have e2 : (ea != 0) = true := by rw [bne, e1]; rfl
    go_wp2
    go_ret
    exact ⟨rfl, hE12⟩
end Go.Proofs.YtlianjnmfgakkaaDoor
