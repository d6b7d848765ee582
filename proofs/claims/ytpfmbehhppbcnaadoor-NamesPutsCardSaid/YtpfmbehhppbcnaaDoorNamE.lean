/- The document's All and Same of tables. -/
import Derived.Test.YtpfmbehhppbcnaaDoorNamD
namespace Go.Proofs.YtpfmbehhppbcnaaDoor
open Go.RowKit

set_option maxRecDepth 100000 in
set_option maxHeartbeats 4000000 in
theorem refAll_any (A : Option Addr) (n c : Nat) (xs : List ByteArray) (w : World) (h : Rd strE w.heap.size w A xs) (hn : n = xs.length) (hl : n ≤ 1000000) (hm : ∀ x ∈ xs, x.size ≤ maxLen) :
    Calls Tryd.prog 11 #[.slice A n c] w fun e w' => ∃ v u, e = .returned (.tuple #[.agg #[v], u, .int .i64 (allF xs).2.2]) ∧ Own strE 9 w.heap.size w' v (allF xs).1 ∧ Own intE 3 w.heap.size w' u (allF xs).2.1 ∧ Ext w w' := by
  replace h := hide h
  replace hn := hide hn
  go_enter Tryd.func11, Tryd.ntmps11
  go_upto_block 0 with fail
  obtain ⟨w0, hw0⟩ : ∃ x, x = (w.alloc (.cells #[.slice none 0 0] 27)).alloc (.cells #[.slice none 0 0] 27) := ⟨_, rfl⟩
  rw [← hw0]
  have hE0 : Ext w w0 := by rw [hw0]; exact ((Below.refl _ w).alloc (Nat.le_refl _) _).alloc (by simp) _
  have Z2 : Hid (Box w0 w.heap.size 27 (.slice none 0 0)) := hide (by rw [hw0]; exact (Box.new w _ _).alloc _)
  have Z5 : Hid (Box w0 (w.heap.size + 1) 27 (.slice none 0 0)) := hide (by
    rw [hw0]
    have := Box.new (w.alloc (.cells #[.slice none 0 0] 27)) 27 (.slice none 0 0)
    rw [World.size_alloc] at this
    exact this)
  clear hw0
  obtain ⟨b2, hb2⟩ : ∃ x, x = w.heap.size := ⟨_, rfl⟩
  rw [← hb2] at Z2 Z5 ⊢
  obtain ⟨b5, hb5⟩ : ∃ x, x = b2 + 1 := ⟨_, rfl⟩
  rw [← hb5] at Z5 ⊢
  have hle2 : w.heap.size ≤ b2 := by omega
  have hle5 : w.heap.size ≤ b5 := by omega
  have h25 : b2 ≠ b5 := by omega
  clear hb2 hb5
  go_wp2
  go_loopw [14, 6] (fun i u wr => ∃ (k : Nat) (v6 v5 : Value), k ≤ n ∧ i = .int .i64 k ∧ v6 = u ∧ Hid ((allF (xs.take k)).2.2 = 0) ∧ Hid (Own strE 9 w.heap.size wr v5 (allF (xs.take k)).1) ∧ Hid (Own intE 3 w.heap.size wr v6 (allF (xs.take k)).2.1) ∧ Hid (Box wr b5 27 v5) ∧ Hid (Box wr b2 27 (.slice none 0 0)) ∧ Ext w wr) (fun i _ _ => n - (intOf i).toNat)
  case atStart => exact ⟨0, _, .slice none 0 0, Nat.zero_le _, rfl, rfl, hide rfl, hide Own.nil_, hide Own.nil_, Z5, Z2, hE0⟩
  case round =>
    clear Z5 Z2 hE0
    obtain ⟨k, v6, v5, hk, rfl, rfl, he0, O5, O6, X5, X2, hE⟩ := hrel
    obtain ⟨hcc, hff⟩ := bcell hE
    have hsz := hE.size
    obtain ⟨A5, c5, rfl, rt5, -, -⟩ := O5.out.rd
    obtain ⟨A6, c6, rfl, -, -, -⟩ := O6.out.rd
    obtain ⟨ts, hts⟩ : ∃ ts, ts = (allF (xs.take k)).1 := ⟨_, rfl⟩
    obtain ⟨os, hos⟩ : ∃ os, os = (allF (xs.take k)).2.1 := ⟨_, rfl⟩
    have hall : allF (xs.take k) = (ts, os, 0) := by rw [hts, hos, ← he0.out]
    obtain ⟨hi1, hi2, hi3⟩ := all_inv (xs.take k)
    rw [hall] at hi1 hi2 hi3
    rw [List.length_take] at hi3
    simp only at hi1 hi2 hi3
    rw [← hts] at O5 X5 rt5
    rw [← hos] at O6 ⊢
    obtain ⟨nt, hnt⟩ : ∃ x, x = ts.length := ⟨_, rfl⟩
    obtain ⟨no, hno⟩ : ∃ x, x = os.length := ⟨_, rfl⟩
    rw [← hnt] at O5 X5 hi2
    rw [← hno] at O6 hi3 ⊢
    replace hnt := hide hnt
    replace hno := hide hno
    replace hall := hide hall
    replace rt5 := hide rt5
    clear hts hos he0 hi1
    by_cases hlt : k < n
    · have hlt' : (k : Int) < (n : Int) := by omega
      obtain ⟨bk, off, rfl, ra⟩ := h.out.at_ (i := k) (by rw [← hn.out]; exact hlt)
      obtain ⟨x, hx⟩ := get_some (xs := xs) (i := k) (by rw [← hn.out]; exact hlt)
      have hxc := (ra.below hE).str hx
      have hbr : bk < wr.heap.size := Nat.lt_of_lt_of_le ra.1 hsz
      have htk : Hid (allF (xs.take (k + 1)) = allStep (ts, os, 0) x) := hide (by rw [take_snoc hx, allF_snoc, hall.out])
      have hxs : Hid (xs = xs.take (k + 1) ++ xs.drop (k + 1)) := hide (List.take_append_drop _ _).symm
      have hmx := hm x (List.mem_of_getElem? hx)
      have c5' := X5.out.cell
      have s5' := X5.out.lt
      replace hx := hide hx
      replace ra := hide ra
      clear hcc hff
      go_wp2_with fail
      refine (refPut_any w.heap.size A5 nt c5 ts x _ rt5.out O5.out hsz hnt.out (by omega) hmx).mono ?_
      rintro e w1 ⟨v, rfl, Ov, hE1⟩
      replace O6 := hide (O6.out.ext hE1)
      replace X5 := X5.out.ext hE1
      replace X2 := X2.out.ext hE1
      replace hE := hE.trans (hE1.mono hE.size)
      clear hxc hbr hE1 hsz rt5 c5' s5' O5
      have hstep := htk.out
      rw [allStep_put] at hstep
      rcases hpq : putR ts x with ⟨tq, nq, eq⟩
      simp only [hpq] at Ov hstep ⊢
      obtain ⟨A9, c9, rfl, -, -, -⟩ := Ov.rd
      obtain ⟨n9, hn9⟩ : ∃ m, m = tq.length := ⟨_, rfl⟩
      rw [← hn9] at Ov ⊢
      replace hn9 := hide hn9
      replace hpq := hide hpq
      replace Ov := hide Ov
      by_cases he : eq = 0
      · subst he
        rw [if_neg (by simp)] at hstep
        replace hstep := hide hstep
        have c5' := X5.cell
        have f5' := X5.free
        have s5' := X5.lt
        go_upto_region 9 with fail
        obtain ⟨w2, hw2⟩ : ∃ x, x = w1.alloc (.cells #[.slice A9 n9 c9] 27) := ⟨_, rfl⟩
        rw [← hw2]
        have hx2 : Ext w1 w2 := by rw [hw2]; exact (Below.refl _ _).alloc (Nat.le_refl _) _
        have X9 : Box w2 w1.heap.size 27 (.slice A9 n9 c9) := by rw [hw2]; exact Box.new _ _ _
        clear hw2
        obtain ⟨b9, hb9⟩ : ∃ x, x = w1.heap.size := ⟨_, rfl⟩
        rw [← hb9] at X9 ⊢
        clear hb9
        replace X5 := X5.ext hx2
        have X2a := hide (X2.ext hx2)
        have Ova := hide (Ov.out.ext hx2)
        have O6a := hide (O6.out.ext hx2)
        have hEa := hide (hE.trans (hx2.mono hE.size))
        clear X2 Ov O6 hE hx2 c5' f5' s5'
        have c5' := X5.cell
        have f5' := X5.free
        have s5' := X5.lt
        have c9' := X9.cell
        have s9' := X9.lt
        replace X5 := hide X5
        replace X9 := hide X9
        go_upto_region 10 with fail
        obtain ⟨w3, hw3⟩ : ∃ x, x = w2.setCell ⟨b5, 0, none⟩ (.slice A9 n9 c9) := ⟨_, rfl⟩
        rw [← hw3]
        have O5 : Hid (Own strE 9 w.heap.size w3 (.slice A9 n9 c9) tq) := hide (by rw [hw3]; exact Ova.out.set X5.out (by decide) _)
        have O6 : Hid (Own intE 3 w.heap.size w3 (.slice A6 no c6) os) := hide (by rw [hw3]; exact O6a.out.set X5.out (by decide) _)
        have X2 : Box w3 b2 27 (.slice none 0 0) := by rw [hw3]; exact X2a.out.far (p := ⟨b5, 0, none⟩) h25 _
        have hE : Ext w w3 := by rw [hw3]; exact hEa.out.setCell (p := ⟨b5, 0, none⟩) hle5 _
        have X5n : Box w3 b5 27 (.slice A9 n9 c9) := by rw [hw3]; exact X5.out.set _
        clear X5 X9 X2a Ova O6a hEa c5' f5' s5' c9' s9' hw3
        have X5 := X5n
        clear X5n
        have hon := own_new (base := 0) (e := 3) intE w3 (nq : Int) (World.heap w3).size rfl (Nat.zero_le _)
        obtain ⟨A4, c4, hv1, hr4, -, -⟩ := hon.rd
        injection hv1 with hv2 hv3 hv4
        subst hv2
        clear hon hv3 hv4
        replace hr4 := hide hr4
        have Oa := hide (O6.out.alloc (.cells (intE.cs (nq : Int)).toArray 3))
        have O5a := hide (O5.out.alloc (.cells (intE.cs (nq : Int)).toArray 3))
        have X5a := hide (X5.alloc (.cells (intE.cs (nq : Int)).toArray 3))
        have X2a := hide (X2.alloc (.cells (intE.cs (nq : Int)).toArray 3))
        have hsz := hE.size
        have hEa := hide (hE.alloc hsz (.cells (intE.cs (nq : Int)).toArray 3))
        clear O6 O5 X5 X2 hE
        go_wp2_with (at_builtin; refine wpList_app tyInt rfl (.tmp 30) (.tmp 32) rfl rfl Oa.out rfl hr4.out rfl (by have := hno.out; simp at this ⊢; omega) (by simp; omega) ?_)
        intro v' w9 hown hg hne hnil
        have O5b := hide (O5a.out.app Oa.out hg (by decide))
        have X5b := hide (X5a.out.app Oa.out hg (by decide))
        have X2b := hide (X2a.out.app Oa.out hg (by decide))
        have hEb : Ext w w9 := Own.below Oa.out hEa.out hg (by simp; omega)
        have hownb := hide hown
        clear hown hg hne hnil hr4 Oa O5a X5a X2a hEa hsz
        obtain ⟨A8, c8, hv8, -, -, -⟩ := hownb.out.rd
        replace hv8 := hide hv8
        go_wp2
        refine ⟨?_, ?_⟩
        · first
            | exact ⟨k + 1, _, _, by omega, by go_num, rfl, hide (by rw [hstep.out]), hide (by rw [hstep.out]; exact O5b.out), hide (by rw [hstep.out]; exact hownb.out), X5b, X2b, hEb⟩
            | ((repeat apply Exists.intro); exact ⟨⟨k + 1, _, _, by omega, by go_num, rfl, hide (by rw [hstep.out]), hide (by rw [hstep.out]; exact O5b.out), hide (by rw [hstep.out]; exact hownb.out), X5b, X2b, hEb⟩, rfl⟩)
        · first | (simp [intOf, lenV]; omega) | (simp [intOf]; omega) | (simp [intOf]; done)
      · rw [if_pos he] at hstep
        have hv : Hid (allF xs = ([], [], eq)) := hide (by
          have hx2 := hxs.out
          rw [hx2, all_err _ _ (by rw [hstep]; exact he), hstep])
        have g1 : ((eq : Int) != 0) = true := by rw [bne_iff_ne]; exact he
        have g2 : (eq == 0) = false := by rw [beq_eq_false_iff_ne]; exact he
        replace hstep := hide hstep
        have X2a := hide (X2.alloc (.cells #[.slice A9 n9 c9] 27))
        have hEa := hide (hE.alloc hE.size (.cells #[.slice A9 n9 c9] 27))
        have f2 := X2a.out.free
        have c2 := X2a.out.cell
        have s2 := X2a.out.lt
        have Y2 := hide (X2a.out.set (.slice none 0 0))
        have Eb := hide (hEa.out.setCell (p := ⟨b2, 0, none⟩) hle2 (.slice none 0 0))
        go_wp2
        refine bodyPost_ret (results_cell_tmp2 rfl _ _ b2 27 _ _ _ rfl Y2.out Tryd.underlying27 rfl (by kernel_rfl)) rfl ?_
        exact ⟨.slice none 0 0, .slice none 0 0, by rw [hv.out]; rfl, by rw [hv.out]; exact Own.nil_, by rw [hv.out]; exact Own.nil_, Eb.out⟩
    · have hlt' : ¬ (k : Int) < (n : Int) := by omega
      have hkn : k = n := by omega
      have hv : Hid (allF xs = (ts, os, 0)) := hide (by have h1 := hall.out; rw [hkn, hn.out, List.take_length] at h1; exact h1)
      have f2 := X2.out.free
      have c2 := X2.out.cell
      have s2 := X2.out.lt
      have c5' := X5.out.cell
      have s5' := X5.out.lt
      have Y2 := hide (X2.out.set (.slice A5 nt c5))
      have O5b := hide (O5.out.set X2.out (by decide) (.slice A5 nt c5))
      have O6b := hide (O6.out.set X2.out (by decide) (.slice A5 nt c5))
      have hEb := hide (hE.setCell (p := ⟨b2, 0, none⟩) hle2 (.slice A5 nt c5))
      clear hkn hcc hff
      go_wp2
      refine bodyPost_ret (results_cell_tmp2 rfl _ _ b2 27 _ _ _ rfl Y2.out Tryd.underlying27 rfl (by kernel_rfl)) rfl ?_
      exact ⟨_, _, by rw [hv.out]; rfl, by rw [hv.out]; exact O5b.out, by rw [hv.out]; exact O6b.out, hEb.out⟩
set_option maxHeartbeats 1000000 in
theorem refSame_any (A1 A2 : Option Addr) (n1 c1 n2 c2 : Nat) (xs ys : List ByteArray) (w : World) (h1 : Rd strE w.heap.size w A1 xs) (hn1 : n1 = xs.length) (hl1 : n1 ≤ 1000000) (h2 : Rd strE w.heap.size w A2 ys) (hn2 : n2 = ys.length) :
    Calls Tryd.prog 13 #[.agg #[.slice A1 n1 c1], .agg #[.slice A2 n2 c2]] w fun e w' => e = .returned (.bool (decide (xs = ys))) ∧ Ext w w' := by
  obtain ⟨q, hq⟩ : ∃ q, q = decide (xs = ys) := ⟨_, rfl⟩
  rw [← hq]
  replace hq := hide hq
  replace h1 := hide h1
  replace h2 := hide h2
  replace hn1 := hide hn1
  replace hn2 := hide hn2
  go_enter Tryd.func13, Tryd.ntmps13
  go_upto_region 1 with fail
  obtain ⟨w0, hw0⟩ : ∃ x, x = (w.alloc (.cells #[.slice A1 n1 c1] 27)).alloc (.cells #[.slice A2 n2 c2] 27) := ⟨_, rfl⟩
  rw [← hw0]
  have hE : Ext w w0 := by rw [hw0]; exact ((Below.refl _ _).alloc (Nat.le_refl _) _).alloc (by simp) _
  have X2 : Box w0 w.heap.size 27 (.slice A1 n1 c1) := by rw [hw0]; exact (Box.new _ _ _).alloc _
  have X3 : Box w0 (w.heap.size + 1) 27 (.slice A2 n2 c2) := by
    rw [hw0]
    have := Box.new (w.alloc (.cells #[.slice A1 n1 c1] 27)) 27 (.slice A2 n2 c2)
    rw [World.size_alloc] at this
    exact this
  clear hw0
  obtain ⟨b2, hb2⟩ : ∃ x, x = w.heap.size := ⟨_, rfl⟩
  rw [← hb2] at X2 X3 ⊢
  obtain ⟨b3, hb3⟩ : ∃ x, x = b2 + 1 := ⟨_, rfl⟩
  rw [← hb3] at X3 ⊢
  clear hb2 hb3
  have k2 := X2.cell
  have s2 := X2.lt
  have k3 := X3.cell
  have s3 := X3.lt
  by_cases hlen : n1 = n2
  · have hlen2 : Hid (xs.length = ys.length) := hide (by rw [← hn1.out, ← hn2.out, hlen])
    subst hlen
    go_wp2
    go_loopw [17] (fun i wr => ∃ k : Nat, k ≤ n1 ∧ i = .int .i64 k ∧ Hid (xs.take k = ys.take k) ∧ w0 = wr) (fun i _ => n1 - (intOf i).toNat)
    case atStart => exact ⟨0, Nat.zero_le _, rfl, hide rfl, rfl⟩
    case round =>
      obtain ⟨k, hk, rfl, hsame, rfl⟩ := hrel
      by_cases hlt : k < n1
      · have hlt' : (k : Int) < (n1 : Int) := by omega
        obtain ⟨e1, o1, rfl, ra1⟩ := (h1.out.ext hE).at_ (i := k) (by rw [← hn1.out]; exact hlt)
        obtain ⟨e2, o2, rfl, ra2⟩ := (h2.out.ext hE).at_ (i := k) (by rw [← hn2.out]; exact hlt)
        have l1 := ra1.1
        have l2 := ra2.1
        obtain ⟨p1, hp1⟩ := get_some (xs := xs) (i := k) (by rw [← hn1.out]; exact hlt)
        obtain ⟨p2, hp2⟩ := get_some (xs := ys) (i := k) (by rw [← hn2.out]; exact hlt)
        have hx1 := ra1.str hp1
        have hx2 := ra2.str hp2
        by_cases he : p1 = p2
        · have hs2 : Hid (xs.take (k + 1) = ys.take (k + 1)) := hide (by rw [take_snoc hp1, take_snoc hp2, hsame.out, he])
          subst he
          have hse : (p1.toList == p1.toList) = true := beq_self_eq_true _
          replace hp1 := hide hp1
          replace hp2 := hide hp2
          replace ra1 := hide ra1
          replace ra2 := hide ra2
          go_wp2
          refine ⟨?_, ?_⟩
          · first
              | exact ⟨k + 1, by omega, by go_num, hs2, trivial⟩
              | ((repeat apply Exists.intro); exact ⟨⟨k + 1, by omega, by go_num, hs2, trivial⟩, rfl⟩)
          · first | (simp [intOf, lenV]; omega) | (simp [intOf]; omega) | (simp [intOf]; done)
        · have hv : Hid (q = false) := hide (by rw [hq.out]; exact decide_eq_false (fun h => by subst h; rw [hp1] at hp2; injection hp2 with hp2; exact he hp2))
          have hse := texts_ne he
          replace he := hide he
          replace hp1 := hide hp1
          replace hp2 := hide hp2
          replace ra1 := hide ra1
          replace ra2 := hide ra2
          go_wp2
          go_ret
          exact ⟨by rw [hv.out]; rfl, hE⟩
      · have hlt' : ¬ (k : Int) < (n1 : Int) := by omega
        have hkn : k = n1 := by omega
        have hv : Hid (q = true) := hide (by
          have h := hsame.out
          rw [hkn, hn1.out, List.take_length, hlen2.out, List.take_length] at h
          rw [hq.out]; exact decide_eq_true h)
        clear hkn
        go_wp2
        go_ret
        exact ⟨by rw [hv.out]; rfl, hE⟩
  · have hv : Hid (q = false) := hide (by rw [hq.out]; exact decide_eq_false (fun h => hlen (by rw [hn1.out, hn2.out, h])))
    have f1 : ((n1 : Int) == (n2 : Int)) = false := by rw [beq_eq_false_iff_ne]; omega
    have f2 : ¬ (n1 : Int) = (n2 : Int) := by omega
    replace hlen := hide hlen
    go_wp2
    go_ret
    exact ⟨by rw [hv.out]; rfl, hE⟩
end Go.Proofs.YtpfmbehhppbcnaaDoor
