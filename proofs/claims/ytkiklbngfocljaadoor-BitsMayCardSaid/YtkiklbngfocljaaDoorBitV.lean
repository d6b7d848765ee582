/- Sets of numbers: the document's Of. -/
import Derived.Test.YtkiklbngfocljaaDoorBitVP
import Derived.Test.YtkiklbngfocljaaDoorBitU
namespace Go.Proofs.YtkiklbngfocljaaDoor
open Go.RowKit

def lenAt (w : World) (b : Nat) : Nat := lenV ((w.cell? ⟨b, 0, none⟩).getD (.bool false))
theorem lenAt_box {w : World} {b : Nat} {t : TypeId} {v : Value} (h : Box w b t v) : lenAt w b = lenV v := by unfold lenAt; rw [h.cell]; rfl
set_option maxRecDepth 100000 in
set_option maxHeartbeats 4000000 in
theorem refOf_any (A : Option Addr) (n c : Nat) (l : List Int) (w : World) (h : Rd intE w.heap.size w A l) (hn : n = l.length) (hl : n ≤ 1000000) (hm : ∀ x ∈ l, mayB x = true) :
    Calls Tryd.prog 15 #[.slice A n c] w fun e w' => ∃ v, e = .returned (.agg #[v]) ∧ Own wE 43 w.heap.size w' v (ofL l) ∧ Ext w w' := by
  obtain ⟨hfit, hlen⟩ := ofL_ok l hm
  replace h := hide h
  replace hn := hide hn
  go_enter Tryd.func15, Tryd.ntmps15
  go_upto_region 2 with fail
  obtain ⟨w0, hw0⟩ : ∃ w0, w0 = (w.alloc (.cells #[.slice none 0 0] 24)).alloc (.cells #[.slice none 0 0] 24) := ⟨_, rfl⟩
  rw [← hw0]
  have hE0 : Ext w w0 := by rw [hw0]; exact ((Below.refl _ _).alloc (Nat.le_refl _) _).alloc (by simp) _
  have hx2 : Hid (Box w0 w.heap.size 24 (.slice none 0 0)) := hide (by rw [hw0]; exact (Box.new w _ _).alloc _)
  have hx3 : Box w0 (w.heap.size + 1) 24 (.slice none 0 0) := by
    rw [hw0]
    have := Box.new (w.alloc (.cells #[.slice none 0 0] 24)) 24 (.slice none 0 0)
    rw [World.size_alloc] at this
    exact this
  clear hw0
  obtain ⟨b3, hb3⟩ : ∃ b, b = w.heap.size + 1 := ⟨_, rfl⟩
  rw [← hb3] at hx3 ⊢
  have hb3' : w.heap.size ≤ b3 := by omega
  have hne : w.heap.size ≠ b3 := by omega
  clear hb3
  replace hx3 := hide hx3
  go_upto_block 0 with fail
  go_cut [11] from 5 to 26 (fun s11 wx => ∃ (v : Value), Hid (Own wE 43 w.heap.size wx v (List.replicate (topL l) 0)) ∧ Hid (Box wx b3 24 v) ∧ Hid (Box wx w.heap.size 24 (.slice none 0 0)) ∧ Ext w wx)
  case first =>
    go_wp2
    go_loopw [11] (fun i wr => ∃ (k : Nat) (v : Value), k ≤ n ∧ i = .int .i64 k ∧ Hid (Own wE 43 w.heap.size wr v (List.replicate (topL (l.take k)) 0)) ∧ Hid (Box wr b3 24 v) ∧ Hid (Box wr w.heap.size 24 (.slice none 0 0)) ∧ Ext w wr) (fun i _ => n - (intOf i).toNat)
    case atStart => exact ⟨0, _, Nat.zero_le _, rfl, hide Own.nil_, hx3, hx2, hE0⟩
    case round =>
      clear hx2 hx3 hE0
      obtain ⟨k, v, hk, rfl, hO, hx3, hx2, hB⟩ := hrel
      obtain ⟨hcc, hff⟩ := bcell hB
      have hsz := hB.size
      by_cases hlt : k < n
      · have hlt' : (k : Int) < (n : Int) := by omega
        obtain ⟨b, off, rfl, ra⟩ := h.out.at_ (i := k) (by rw [← hn.out]; exact hlt)
        obtain ⟨p, hp⟩ := get_some (xs := l) (i := k) (by rw [← hn.out]; exact hlt)
        have hpc := (ra.ext hB).int hp
        have hb := Nat.lt_of_lt_of_le ra.1 hsz
        have hmp := mayB_of (hm p (List.mem_of_getElem? hp))
        have htk := take_snoc hp
        replace ra := hide ra
        obtain ⟨y, rfl⟩ : ∃ y : Nat, p = y := ⟨p.toNat, by omega⟩
        obtain ⟨z, hz⟩ : ∃ z, z = y / 64 := ⟨_, rfl⟩
        have u1 : Int.tdiv (y : Int) 64 = (z : Int) := by rw [hz]; simp
        have u2 : (y : Int) / 64 = (z : Int) := by rw [hz]; omega
        have u3 : IntKind.i64.wrap (z : Int) = (z : Int) := IntWalk.i64_in _ (by omega)
        have hz160 : z < 160 := by omega
        have htop : Hid (topL (l.take (k + 1)) = max (topL (l.take k)) (z + 1)) := hide (by rw [htk, topL_snoc, hz]; rfl)
        have ht157 : topL (l.take k) ≤ 157 := by rw [← ofL_length]; exact (ofL_ok _ (fun x hx => hm x (List.mem_of_mem_take hx))).2
        obtain ⟨t, ht⟩ : ∃ t, t = topL (l.take k) := ⟨_, rfl⟩
        rw [← ht] at htop ht157 hO
        replace ht := hide ht
        replace hz := hide hz
        replace hp := hide hp
        replace htk := hide htk
        clear hmp
        go_wp2
        go_loopw [20] (fun _ wr => ∃ (m : Nat) (v : Value), m ≤ max t (z + 1) ∧ t ≤ m ∧ Hid (Own wE 43 w.heap.size wr v (List.replicate m 0)) ∧ Hid (Box wr b3 24 v) ∧ Hid (Box wr w.heap.size 24 (.slice none 0 0)) ∧ Ext w wr) (fun _ wr => z + 1 - lenAt wr b3)
        case atStart => exact ⟨t, v, Nat.le_max_left _ _, Nat.le_refl _, hO, hx3, hx2, hB⟩
        case round =>
          clear hO hx3 hx2 hB hcc hff hsz hpc hb
          obtain ⟨m, v, hm1, hm2, hO, hx3, hx2, hB⟩ := hrel
          have hsz := hB.size
          obtain ⟨A4, c4, rfl, -, -, -⟩ := hO.out.rd
          replace hO := hO.out
          rw [List.length_replicate] at hO hx3
          have hc3 := hx3.out.cell
          have hs3 := hx3.out.lt
          have hla := hide (lenAt_box hx3.out)
          by_cases hmz : m ≤ z
          · have hmz' : (m : Int) ≤ (z : Int) := by omega
            have hon := own_new (base := 0) (e := 43) wE wr 0 wr.heap.size rfl (Nat.zero_le _)
            obtain ⟨A5, c5, hv1, hr5, -, -⟩ := hon.rd
            injection hv1 with hv2 hv3 hv4
            subst hv2
            clear hon hv3 hv4
            replace hr5 := hide hr5
            have hO1 := hide (hO.alloc (.cells (wE.cs 0).toArray 43))
            replace hO := hide hO
            go_wp2_with (at_builtin; refine wpList_app tyW rfl (.tmp 22) (.tmp 23) rfl rfl hO1.out rfl hr5.out rfl (by simp; omega) (by simp; omega) ?_)
            intro v' w' hown' hg hne' hnil
            have hB' : Ext w w' := Own.below hO1.out (hB.alloc hsz _) hg (by simp; omega)
            have hx31 := (hx3.out.alloc (.cells (wE.cs 0).toArray 43)).app hO1.out hg (by decide)
            have hx21 := (hx2.out.alloc (.cells (wE.cs 0).toArray 43)).app hO1.out hg (by decide)
            have hcb := hx31.cell
            have hfb := hx31.free
            have hsb := hx31.lt
            have hown2 : Own wE 43 w.heap.size w' v' (List.replicate (m + 1) 0) := by rw [List.replicate_succ']; exact hown'
            clear hown' hne' hnil
            have hhg := hide hg
            obtain ⟨A6, c6, rfl, -, -, -⟩ := hown2.rd
            rw [List.length_replicate] at hown2 ⊢
            obtain ⟨v', hv'⟩ : ∃ v', v' = Value.slice A6 (m + 1) c6 := ⟨_, rfl⟩
            rw [← hv'] at hown2
            have hla3 : lenV v' = m + 1 := by rw [hv']; rfl
            have hown3 : Hid (Own wE 43 w.heap.size (w'.setCell ⟨b3, 0, none⟩ v') v' (List.replicate (m + 1) 0)) := hide (hown2.set hx31 (by decide) v')
            have hx32 := hide (hx31.set v')
            have hx22 := hide (hx21.far (p := ⟨b3, 0, none⟩) hne v')
            have hB3 := hB'.setCell (p := ⟨b3, 0, none⟩) hb3' v'
            have hla2 : Hid (lenAt (w'.setCell ⟨b3, 0, none⟩ v') b3 = m + 1) := hide (by
              rw [lenAt_box hx32.out, hla3])
            clear hown2 hg hhg hO1 hr5 hx31 hx21
            subst hv'
            clear hla3
            go_wp2
            refine ⟨?_, ?_⟩
            · first
              | exact ⟨m + 1, _, by omega, by omega, hown3, hx32, hx22, hB3⟩
              | ((repeat apply Exists.intro); exact ⟨⟨m + 1, _, by omega, by omega, hown3, hx32, hx22, hB3⟩, rfl⟩)
            · rw [hla2.out, hla.out]; simp [lenV]; omega
          · have hmz' : ¬ (m : Int) ≤ (z : Int) := by omega
            have hmt : m = topL (l.take (k + 1)) := by rw [htop.out]; omega
            have hO4 : Hid (Own wE 43 w.heap.size _ (.slice A4 m c4) (List.replicate (topL (l.take (k + 1))) 0)) := hide (by rw [← hmt]; exact hO)
            clear hmt
            replace hO := hide hO
            go_wp2
            refine ⟨?_, ?_⟩
            · first
                | exact ⟨k + 1, _, by omega, by go_num, hO4, hx3, hx2, hB⟩
                | ((repeat apply Exists.intro); exact ⟨⟨k + 1, _, by omega, by go_num, hO4, hx3, hx2, hB⟩, rfl⟩)
            · first | (simp [intOf, lenV]; omega) | (simp [intOf]; omega) | (simp [intOf]; done)
      · obtain hkn : k = n := by omega
        have htl : l.take k = l := by rw [hkn, hn.out, List.take_length]
        rw [htl] at hO
        clear htl
        subst hkn
        go_wp2
        go_meet
        case rel => exact ⟨v, hO, hx3, hx2, hB⟩
  case rest =>
    clear hx2 hx3 hE0
    obtain ⟨v, hO, hx3, hx2, hB⟩ := hcut
    obtain ⟨M, hM⟩ : ∃ M, M = topL l := ⟨_, rfl⟩
    have hMl : Hid (M = (ofL l).length) := hide (by rw [ofL_length, hM])
    have hM157 : M ≤ 157 := by rw [hMl.out]; exact hlen
    rw [← hM] at hO
    replace hM := hide hM
    obtain ⟨A4, c4, rfl, -, -, -⟩ := hO.out.rd
    replace hO := hO.out
    rw [List.length_replicate] at hO hx3
    have hO2 : Hid (Own wE 43 w.heap.size _ (.slice A4 M c4) (half (ofL l) 0)) := hide (by rw [half_zero, ← hMl.out]; exact hO)
    clear hO
    have hc3 := hx3.out.cell
    have hs3 := hx3.out.lt
    go_wp2
    go_loopw [30] (fun i wr => ∃ (k : Nat), k ≤ M ∧ i = .int .i64 k ∧ Hid (Own wE 43 w.heap.size wr (.slice A4 M c4) (half (ofL l) k)) ∧ Hid (Box wr b3 24 (.slice A4 M c4)) ∧ Hid (Box wr w.heap.size 24 (.slice none 0 0)) ∧ Ext w wr) (fun i _ => M - (intOf i).toNat)
    case atStart => exact ⟨0, Nat.zero_le _, rfl, hO2, hx3, hx2, hB⟩
    case round =>
      clear hx2 hx3 hO2 hB hc3 hs3
      obtain ⟨k, hk, rfl, hO, hx3, hx2, hB⟩ := hrel
      have hsz := hB.size
      have hc3 := hx3.out.cell
      have hs3 := hx3.out.lt
      by_cases hlt : k < M
      · have hlt' : (k : Int) < (M : Int) := by omega
        obtain ⟨x, hx⟩ : ∃ x, x = wat (ofL l) k := ⟨_, rfl⟩
        have hx64 : x < 18446744073709551616 := by rw [hx]; exact wat_fit hfit k
        obtain ⟨p, hp⟩ : ∃ p, p = 64 * k := ⟨_, rfl⟩
        have u6 : IntKind.i64.wrap (64 * (k : Int)) = (p : Int) := by rw [IntWalk.i64_in _ (by omega)]; omega
        have hp7 : p < 64000 := by omega
        have hbit : Hid (∀ j, j < 64 → hasL l ((p + j : Nat) : Int) = x.testBit j) := hide (fun j hj => by rw [hp, hx]; exact hasL_word hm k j hj)
        obtain ⟨g, u, hgA, hg1, hg2, hg3, hg4, hS⟩ := hO.out.setWord hlt x
        have hgne : g ≠ b3 := by
          intro hc
          have := hO.out.ne_box hx3.out (by decide)
          rw [hgA, hc] at this
          exact this rfl
        have hS2 : Hid (Own wE 43 w.heap.size (wr.setCell ⟨g, k, none⟩ (.int .u64 (x : Int))) (.slice A4 M c4) (half (ofL l) (k + 1))) := hide (by rw [← half_succ, ← hx]; exact hS)
        have hgw : g ≠ w.heap.size := by
          intro hc
          have := hO.out.ne_box hx2.out (by decide)
          rw [hgA, hc] at this
          exact this rfl
        have hx31 := hide (hx3.out.far (p := ⟨g, k, none⟩) (Ne.symm hgne) (.int .u64 (x : Int)))
        have hx21 := hide (hx2.out.far (p := ⟨g, k, none⟩) (Ne.symm hgw) (.int .u64 (x : Int)))
        have hB1 : Hid (Ext w (wr.setCell ⟨g, k, none⟩ (.int .u64 (x : Int)))) := hide (hB.setCell (p := ⟨g, k, none⟩) hg1 _)
        clear hS hgne hgw
        subst hgA
        replace hp := hide hp
        replace hx := hide hx
        go_wp2
        go_loopw [7, 33] (fun s i w1 => ∃ (j y : Nat), j ≤ 64 ∧ i = .int .i64 j ∧ s = .int .u64 y ∧ Hid (y = up x j) ∧ y < 18446744073709551616 ∧ w1 = wr) (fun _ i _ => 64 - (intOf i).toNat)
        case atStart => exact ⟨0, 0, Nat.zero_le _, rfl, rfl, hide (up_zero x).symm, by decide, rfl⟩
        case round =>
          obtain ⟨j, y, hj, rfl, rfl, hy, hy64, hw1⟩ := hrel
          subst hw1
          by_cases hlt2 : j < 64
          · have hlt2' : (j : Int) < 64 := by omega
            obtain ⟨z, hz⟩ : ∃ z, z = y / 2 := ⟨_, rfl⟩
            have v1 : Int.tdiv (y : Int) 2 = (z : Int) := by rw [hz]; simp
            have v2 : (y : Int) / 2 = (z : Int) := by omega
            have hz63 : z < 9223372036854775808 := by rw [hz, hy.out]; exact up_half_lt hlt2
            have hup : Hid (up x (j + 1) = z + if x.testBit j = true then 9223372036854775808 else 0) := hide (by rw [up_succ hlt2, hz, ← hy.out])
            obtain ⟨q, hq⟩ : ∃ q, q = p + j := ⟨_, rfl⟩
            have u9 : IntKind.i64.wrap ((p : Int) + (j : Int)) = (q : Int) := by rw [IntWalk.i64_in _ (by omega)]; omega
            have hbj := hbit.out j hlt2
            rw [← hq] at hbj
            replace hz := hide hz
            replace hq := hide hq
            by_cases hb : x.testBit j = true
            · have v3 : IntKind.u64.wrap ((z : Int) + 9223372036854775808) = ((z + 9223372036854775808 : Nat) : Int) := by rw [IntKind.wrap_u64]; omega
              have hy2 : Hid (z + 9223372036854775808 = up x (j + 1)) := hide (by rw [hup.out, if_pos hb])
              have hy3 : z + 9223372036854775808 < 18446744073709551616 := by omega
              obtain ⟨z2, hz2⟩ : ∃ z2, z2 = z + 9223372036854775808 := ⟨_, rfl⟩
              rw [← hz2] at v3 hy2 hy3
              replace hz2 := hide hz2
              rw [hb] at hbj
              replace hb := hide hb
              replace hbj := hide hbj
              go_wp2_with fail
              refine (refHas_any A n c l (q : Int) _ (h.out.ext hB) hn.out hl).mono ?_
              rintro e w2 ⟨rfl, hw2⟩
              subst hw2
              rw [hbj.out]
              go_wp2
              refine ⟨?_, ?_⟩
              · first
                  | exact ⟨j + 1, z2, by omega, by go_num, rfl, hy2, hy3, trivial⟩
                  | ((repeat apply Exists.intro); exact ⟨⟨j + 1, z2, by omega, by go_num, rfl, hy2, hy3, trivial⟩, rfl⟩)
              · first | (simp [intOf, lenV]; omega) | (simp [intOf]; omega) | (simp [intOf]; done)
            · have hy2 : Hid (z = up x (j + 1)) := hide (by rw [hup.out, if_neg hb]; rfl)
              have hy3 : z < 18446744073709551616 := by omega
              rw [Bool.eq_false_iff.2 hb] at hbj
              clear hb
              replace hbj := hide hbj
              go_wp2_with fail
              refine (refHas_any A n c l (q : Int) _ (h.out.ext hB) hn.out hl).mono ?_
              rintro e w2 ⟨rfl, hw2⟩
              subst hw2
              rw [hbj.out]
              go_wp2
              refine ⟨?_, ?_⟩
              · first
                  | exact ⟨j + 1, z, by omega, by go_num, rfl, hy2, hy3, trivial⟩
                  | ((repeat apply Exists.intro); exact ⟨⟨j + 1, z, by omega, by go_num, rfl, hy2, hy3, trivial⟩, rfl⟩)
              · first | (simp [intOf, lenV]; omega) | (simp [intOf]; omega) | (simp [intOf]; done)
          · obtain rfl : j = 64 := by omega
            obtain rfl : y = x := by rw [hy.out]; exact up_all hx64
            have u5 : IntKind.i64.wrap (k : Int) = (k : Int) := IntWalk.i64_in _ (by omega)
            clear hlt2
            go_wp2
            refine ⟨?_, ?_⟩
            · first
                | exact ⟨k + 1, by omega, by go_num, hS2, hx31, hx21, hB1.out⟩
                | ((repeat apply Exists.intro); exact ⟨⟨k + 1, by omega, by go_num, hS2, hx31, hx21, hB1.out⟩, rfl⟩)
            · first | (simp [intOf, lenV]; omega) | (simp [intOf]; omega) | (simp [intOf]; done)
      · obtain rfl : k = M := by omega
        have hall : Hid (half (ofL l) k = ofL l) := hide (by rw [hMl.out]; exact half_all _)
        have hcb := hx2.out.cell
        have hfb := hx2.out.free
        have hsb := hx2.out.lt
        have hO5 := hide ((hO.out).set hx2.out (by decide) (.slice A4 k c4))
        have hx6 := hide (hx2.out.set (.slice A4 k c4))
        go_wp2
        refine bodyPost_ret (results_cell_row rfl _ _ w.heap.size 24 _ _ _ rfl hx6.out Tryd.underlying24 rfl (by kernel_rfl)) rfl ?_
        refine ⟨_, rfl, ?_, hB.setCell (p := ⟨w.heap.size, 0, none⟩) (Nat.le_refl _) _⟩
        have h9 := hO5.out
        rw [hall.out] at h9
        exact h9
end Go.Proofs.YtkiklbngfocljaaDoor
