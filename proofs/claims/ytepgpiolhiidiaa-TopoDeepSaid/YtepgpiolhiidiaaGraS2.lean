/- order.Sort returns, in new memory, the stable sort of a row: the walk. -/
import Derived.Test.YtepgpiolhiidiaaGraS
namespace Go.Proofs.Ytepgpiolhiidiaa
open Go.RowKit

theorem ty2Edge : Ty Try.prog slE 94 22 24 := ty_of (sz := 1) (z := .slice none 0 0) (by kernel_rfl) (by kernel_rfl) rfl rfl (by decide)
theorem zero_Edge : ∀ i z, Try.prog.info? 50 = some i → i.zero = some z → z.cells.toList = edgeE.cs (0, 0, 0) := by
  intro i z hi hz
  obtain ⟨i', hi', hz', _, _⟩ := info_parts (P := Try.prog) (e := 50) (z := .agg #[.int .i64 0, .int .i64 0, .int .i64 0]) (size := 3) (bytes := 24) (by kernel_rfl)
  rw [hi'] at hi
  injection hi with hi
  subst hi
  rw [hz'] at hz
  injection hz with hz
  subst hz
  rfl

set_option maxHeartbeats 4000000 in
theorem sort_Edge (A : Option Addr) (n c : Nat) (xs : List (Int × Int × Int)) (w : World) (hn : n = xs.length) (h : Rd edgeE w.heap.size w A xs) (hc : n ≤ c) (hnb : n ≤ 1000000) :
    Calls Try.prog 67 #[.slice A n c, .func (.func 44) #[] #[]] w fun e w' => ∃ v, e = .returned v ∧ Own edgeE 50 w.heap.size w' v (isort ltE xs) ∧ Ext w w' := by
  replace hn := hide hn
  replace h := hide h
  go_enter Try.func67, Try.ntmps67
  go_wp2
  have hB0 : Below w.heap.size w ((w.alloc (.cells #[.func (.func 44) #[] #[]] 70)).alloc (.cells #[.slice none 0 0] 94)) := ((Below.refl _ _).alloc (Nat.le_refl _) _).alloc (by simp) _
  have hx0 : Box ((w.alloc (.cells #[.func (.func 44) #[] #[]] 70)).alloc (.cells #[.slice none 0 0] 94)) w.heap.size 70 (.func (.func 44) #[] #[]) := (Box.new _ _ _).alloc _
  have hx1 : Box ((w.alloc (.cells #[.func (.func 44) #[] #[]] 70)).alloc (.cells #[.slice none 0 0] 94)) (w.heap.size + 1) 94 (.slice none 0 0) := by
    have := Box.new (w.alloc (.cells #[.func (.func 44) #[] #[]] 70)) 94 (.slice none 0 0)
    simpa using this
  go_loopw [13] (fun i wr => ∃ (k : Nat) (R : Option Addr) (rn rc : Nat) (vs : List (Option Addr × Nat × Nat)), k ≤ n ∧ i = .int .i64 k ∧ Hid (Box wr w.heap.size 70 (.func (.func 44) #[] #[])) ∧
      Hid (Box wr (w.heap.size + 1) 94 (.slice R rn rc)) ∧ Hid (Own slE 22 w.heap.size wr (.slice R rn rc) vs) ∧ Hid (rn = k ∧ vs.length = k) ∧ Hid (Rows_ edgeE 50 w.heap.size wr vs ((xs.take k).map fun x => [x])) ∧ Below w.heap.size w wr)
      (fun i _ => n - (intOf i).toNat)
  case atStart => exact ⟨0, none, 0, 0, [], Nat.zero_le _, rfl, hx0, hx1, hide Own.nil_, hide ⟨rfl, rfl⟩, hide (by simpa using rows_nil), hB0⟩
  case round =>
    obtain ⟨k, R, rn, rc, vs, hk, rfl, hx0, hx1, hown, hlen, hrows, hB⟩ := hrel
    obtain ⟨hcw, hfw⟩ := bcell hB
    have hsz := hB.size
    by_cases hlt : k < n
    · obtain ⟨b, off, rfl, hra⟩ := h.out.at_ (i := k) (by rw [← hn.out]; exact hlt)
      obtain ⟨x, hx⟩ := get_some (i := k) (by rw [← hn.out]; exact hlt)
      replace hx := hide hx
      have hcut := hide ((hra.drop k).take 1)
      replace hra := hide hra
      have hk1 : (k : Int) ≤ (c : Int) := by omega
      have hk2 : (k : Int) + 1 ≤ (c : Int) := by omega
      have hk3 : (k : Int) ≤ (k : Int) + 1 := by omega
      go_wp2_with (at_make; refine wpList_make (base := wr.heap.size) tyEdge rfl _ _ rfl (n := 1) zero_Edge rfl rfl rfl rfl (by omega) (Nat.le_refl _) ?_)
      intro w1 hown1 hg1
      have hE1 := grown_none hg1
      replace hown1 := hide hown1
      clear hg1
      have hcut' : Rd edgeE w.heap.size w1 (some ⟨b, off + k * 3, none⟩) [x] := by
        have e1 : (xs.drop k).take 1 = [x] := by
          have := List.getElem?_drop (xs := xs) (i := k) (j := 0)
          rw [Nat.add_zero, hx.out] at this
          rw [cons_of_get this]; rfl
        have h1 := hcut.out
        have e2 : off + k * edgeE.sz = off + k * 3 := by show off + k * 3 = _; omega
        rw [e1, e2] at h1
        exact (Rd.below (.inr ⟨b, _, rfl, h1⟩) (hB.trans (hE1.mono hsz)))
      replace hcut' := hide hcut'
      go_wp2_with (refine wpList_copy tyEdge rfl (.tmp 17) (.tmp 24) rfl rfl hown1.out rfl hcut'.out rfl rfl ?_)
      intro w2 hown2 hg2
      have hE2 : Ext wr w2 := hown1.out.below hE1 hg2 hE1.size
      replace hown2 := hide (hown2.base_le hsz)
      clear hg2 hE1 hown1 hcut'
      have hx0' := hx0.out.ext hE2
      have hx1' := hx1.out.ext hE2
      have hrows' := hide (hrows.out.ext hE2)
      have hown' := hide (hown.out.ext hE2)
      have hB2 := hB.trans (hE2.mono hsz)
      have h1c := hx1'.cell
      have h1f := hx1'.free
      have hsz2 := hB2.size
      replace hx0' := hide hx0'
      replace hx1' := hide hx1'
      go_wp2_with (at_builtin; refine wpList_app ty2Edge rfl (.tmp 26) (.tmp 28) rfl rfl (hown'.out.alloc _) rfl (rd_new w2 (some ⟨wr.heap.size, 0, none⟩, 1, 1) _ rfl) rfl (by rw [hlen.out.2]; simp; omega) (by simp; omega) ?_)
      intro v3 w3 hown3 hg3 _ _
      have hoA := hown'.out.alloc (.cells #[.slice (some ⟨wr.heap.size, 0, none⟩) 1 1] 22)
      have hB3 : Below w.heap.size w w3 := hoA.below (hB2.alloc hsz2 _) hg3 (by simp; omega)
      have hx0a := ((hx0'.out.alloc _).app hoA hg3 (by decide)).far (p := ⟨w.heap.size + 1, 0, none⟩) (by simp)
      have hx1a := (hx1'.out.alloc _).app hoA hg3 (by decide)
      have hrow3 : Rows_ edgeE 50 w.heap.size w3 (vs ++ [(some ⟨wr.heap.size, 0, none⟩, 1, 1)]) ((xs.take (k + 1)).map fun x => [x]) := by
        rw [take_snoc hx.out, List.map_append]
        exact Rows_.snoc ((hrows'.out.alloc _).app hoA hg3 (by decide)) ((hown2.out.alloc _).app hoA hg3 (by decide))
      obtain ⟨R', rc', rfl, -, -, -⟩ := hown3.rd
      obtain ⟨rn', hrn'⟩ : ∃ m, m = (vs ++ [((some ⟨wr.heap.size, 0, none⟩, 1, 1) : Option Addr × Nat × Nat)]).length := ⟨_, rfl⟩
      rw [← hrn'] at hown3 ⊢
      have hx1c := hx1a.cell
      have hx1f := hx1a.free
      have hown4 := hide (hown3.set hx1a (by decide) (.slice R' rn' rc'))
      have hrow4 := hide (hrow3.mapw fun v ys hy => hy.set hx1a (by decide) (.slice R' rn' rc'))
      have hx14 := hide (hx1a.set (.slice R' rn' rc'))
      have hx04 := hide (hx0a (.slice R' rn' rc'))
      have hB4 : Below w.heap.size w (w3.setCell ⟨w.heap.size + 1, 0, none⟩ (.slice R' rn' rc')) := hB3.setCell (by simp) _
      have hl4 : Hid (rn' = k + 1 ∧ (vs ++ [((some ⟨wr.heap.size, 0, none⟩, 1, 1) : Option Addr × Nat × Nat)]).length = k + 1) := hide ⟨by rw [hrn']; simp [hlen.out.2], by simp [hlen.out.2]⟩
      clear hoA hown3 hx1a hx0a hrn' hg3 hrow3 hcw hfw h1c h1f
      go_wp2
      go_roundw
      case rel => exact ⟨k + 1, R', rn', rc', _, by omega, by go_num, hx04, hx14, hown4, hl4, hrow4, hB4⟩
      case measure => simp [intOf]; omega
    · have hkn : k = n := by omega
      subst hkn
      have hgood : Hid (Good ltE xs ((xs.take k).map fun x => [x])) := hide (by rw [List.take_of_length_le (by rw [← hn.out]; omega)]; exact good_ones)
      obtain ⟨xss, hxss⟩ : ∃ l, l = (xs.take k).map fun x => [x] := ⟨_, rfl⟩
      rw [← hxss] at hgood hrows
      clear hxss
      go_wp2
      go_loopw [34] (fun _ wo => ∃ (R : Option Addr) (rn rc : Nat) (vs : List (Option Addr × Nat × Nat)) (xss : List (List (Int × Int × Int))), Hid (Box wo w.heap.size 70 (.func (.func 44) #[] #[])) ∧
          Hid (Box wo (w.heap.size + 1) 94 (.slice R rn rc)) ∧ Hid (Own slE 22 w.heap.size wo (.slice R rn rc) vs) ∧ Hid (rn = vs.length) ∧ rn ≤ 1000000 ∧ Hid (Rows_ edgeE 50 w.heap.size wo vs xss) ∧ Hid (Good ltE xs xss) ∧ Below w.heap.size w wo)
          (fun _ wo => lenV ((wo.cell? ⟨w.heap.size + 1, 0, none⟩).getD undef))
      case atStart => exact ⟨R, rn, rc, vs, xss, hx0, hx1, hown, hide (by rw [hlen.out.1, hlen.out.2]), by rw [hlen.out.1]; omega, hrows, hgood, hB⟩
      clear hx0 hx1 hown hlen hrows hgood hB hcw hfw hsz
      case round =>
        obtain ⟨wo, rfl⟩ : ∃ wo : World, wo = wr := ⟨_, rfl⟩
        obtain ⟨R, rn, rc, vs, xss, hx0, hx1, hown, hlen, hrb, hrows, hgood, hB⟩ := hrel
        have h1c := hx1.out.cell
        have h1f := hx1.out.free
        obtain ⟨R', rc', eR, rR, hrc, _⟩ := hown.out.rd
        injection eR with eR1 eR2 eR3
        subst eR1 eR3
        clear eR2
        replace rR := hide rR
        have hszo := hB.size
        by_cases hmore : 1 < rn
        · have hm1 : (1 : Int) < (rn : Int) := by omega
          go_wp2
          go_loopw [9, 39] (fun o i wi => ∃ (j : Nat) (RN : Option Addr) (nn nc : Nat) (vs' : List (Option Addr × Nat × Nat)), 2 * j ≤ rn + 1 ∧ i = .int .i64 j ∧ o = .slice RN nn nc ∧ Hid (Own slE 22 wo.heap.size wi (.slice RN nn nc) vs') ∧
              Hid (nn = j ∧ vs'.length = j) ∧ Hid (Rows_ edgeE 50 w.heap.size wi vs' ((passR ltE xss).take j)) ∧ Ext wo wi) (fun _ i _ => rn - (intOf i).toNat)
          case atStart => exact ⟨0, none, 0, 0, [], by omega, rfl, rfl, hide Own.nil_, hide ⟨rfl, rfl⟩, hide (by simpa using rows_nil), Below.refl _ _⟩
          case round =>
            obtain ⟨wi, rfl⟩ : ∃ wi : World, wi = wr := ⟨_, rfl⟩
            obtain ⟨j, RN, nn, nc, vs', hj, rfl, rfl, hown', hlen', hrows', hE⟩ := hrel
            have hszi := hE.size
            by_cases hjl : 2 * j < rn
            · have hj1 : (j : Int) < ((rn : Int) + 1) / 2 := by omega
              have hbase : w.heap.size ≤ wi.heap.size := by omega
              have hB' := hide (hB.trans (hE.mono hszo))
              have hxx := hide (passR_get (lt := ltE) xss j (by rw [← hrows.out.1, ← hlen.out]; exact hjl))
              go_wp2_with fail
              refine (both_Edge w.heap.size w.heap.size (w.heap.size + 1) (2 * j) rn rc (2 * (j : Int)) (by omega) R vs xss _ (hx1.out.ext hE).cell (hx0.out.ext hE).cell (rR.out.ext hE) hlen.out (hrows.out.ext hE) hjl hrb hbase (fun r hr => by have := good_len hgood.out r hr; rw [← hn.out] at this; omega)).mono ?_
              rintro e w2 ⟨A2, n2, c2, rfl, hown2, hE2⟩
              have hE3 := hE.trans (hE2.mono hszi)
              have hown3 := hide (hown'.out.ext hE2)
              have hrows3 := hide (hrows'.out.ext hE2)
              replace hown2 := hide hown2
              have hsz3 := hE3.size
              go_wp2_with (at_builtin; refine wpList_app ty2Edge rfl (.tmp 42) (.tmp 47) rfl rfl (hown3.out.alloc _) rfl (rd_new w2 (A2, n2, c2) _ rfl) rfl (by rw [hlen'.out.2]; simp; omega) (by simp; omega) ?_)
              intro v4 w4 hown4 hg4 _ _
              have hoA := hown3.out.alloc (.cells #[.slice A2 n2 c2] 22)
              have hE4 : Ext wo w4 := hoA.below (hE3.alloc hsz3 _) hg4 (by simp; omega)
              have hrow4 : Rows_ edgeE 50 w.heap.size w4 (vs' ++ [(A2, n2, c2)]) ((passR ltE xss).take (j + 1)) := by
                rw [take_snoc hxx.out]
                exact Rows_.snoc ((hrows3.out.alloc _).app hoA hg4 (by decide)) ((hown2.out.alloc _).app hoA hg4 (by decide))
              obtain ⟨R', rc', rfl, -, -, -⟩ := hown4.rd
              obtain ⟨rn', hrn'⟩ : ∃ m, m = (vs' ++ [(A2, n2, c2)]).length := ⟨_, rfl⟩
              rw [← hrn'] at hown4 ⊢
              have hl4 : Hid (rn' = j + 1 ∧ (vs' ++ [(A2, n2, c2)]).length = j + 1) := hide ⟨by rw [hrn']; simp [hlen'.out.2], by simp [hlen'.out.2]⟩
              replace hown4 := hide hown4
              replace hrow4 := hide hrow4
              clear hoA hrn' hg4
              go_wp2
              refine ⟨?_, ?_⟩
              · first
                  | exact ⟨j + 1, R', rn', rc', _, by omega, by go_num, rfl, hown4, hl4, hrow4, hE4⟩
                  | ((repeat apply Exists.intro); exact ⟨⟨j + 1, R', rn', rc', _, by omega, by go_num, rfl, hown4, hl4, hrow4, hE4⟩, rfl⟩)
              · first | (simp [intOf, lenV]; omega) | (simp [intOf]; omega) | (simp [intOf]; done)
            · have hj1 : ((rn : Int) + 1) / 2 ≤ (j : Int) := by omega
              have hjj : j = (rn + 1) / 2 := by omega
              have hx1i := hx1.out.ext hE
              have h1c := hx1i.cell
              have h1f := hx1i.free
              have hb5 : Below w.heap.size w (wi.setCell ⟨w.heap.size + 1, 0, none⟩ (.slice RN nn nc)) := (hB.trans (hE.mono hszo)).setCell (by simp) _
              have hx05 := hide (((hx0.out.ext hE).far (p := ⟨w.heap.size + 1, 0, none⟩) (by simp)) (.slice RN nn nc))
              have hx15 := hide (hx1i.set (.slice RN nn nc))
              have hown5 := hide ((hown'.out.base_le hszo).set hx1i (by decide) (.slice RN nn nc))
              have hpl : (passR ltE xss).length = j := by rw [passR_length, ← hrows.out.1, ← hlen.out]; exact hjj.symm
              have hrow5 := hrows'.out.mapw fun v ys hy => hy.set hx1i (by decide) (.slice RN nn nc)
              rw [List.take_of_length_le (by omega)] at hrow5
              replace hrow5 := hide hrow5
              have hgood5 := hide (good_pass swo_E hgood.out)
              have hnn : nn ≤ 1000000 := by rw [hlen'.out.1]; omega
              have hmeas : nn < rn := by rw [hlen'.out.1]; omega
              have hlen5 : Hid (nn = vs'.length) := hide (by rw [hlen'.out.1, hlen'.out.2])
              have hmc : lenV ((wo.cell? ⟨w.heap.size + 1, 0, none⟩).getD undef) = rn := by rw [hx1.out.cell]; rfl
              have hmc2 : lenV (((wi.setCell ⟨w.heap.size + 1, 0, none⟩ (.slice RN nn nc)).cell? ⟨w.heap.size + 1, 0, none⟩).getD undef) = nn := by rw [hx15.out.cell]; rfl
              have hmm : Hid (lenV (((wi.setCell ⟨w.heap.size + 1, 0, none⟩ (.slice RN nn nc)).cell? ⟨w.heap.size + 1, 0, none⟩).getD undef) < lenV ((wo.cell? ⟨w.heap.size + 1, 0, none⟩).getD undef)) := hide (by rw [hmc, hmc2]; exact hmeas)
              clear hmc hmc2 hx1i hjj hpl
              go_wp2
              refine ⟨?_, hmm.out⟩
              first
                | exact ⟨RN, nn, nc, vs', _, hx05, hx15, hown5, hlen5, hnn, hrow5, hgood5, hb5⟩
                | ((repeat apply Exists.intro); exact ⟨⟨RN, nn, nc, vs', _, hx05, hx15, hown5, hlen5, hnn, hrow5, hgood5, hb5⟩, rfl⟩)
        · by_cases h0 : rn = 0
          · have hvs : vs = [] := List.eq_nil_of_length_eq_zero (by rw [← hlen.out]; exact h0)
            have hxs : xs = [] := good_none (lt := ltE) (by have := hgood.out; rw [show xss = [] from List.eq_nil_of_length_eq_zero (by rw [← hrows.out.1, hvs]; rfl)] at this; exact this)
            subst h0
            replace hxs := hide hxs
            replace hvs := hide hvs
            go_wp2
            go_ret
            exact ⟨_, rfl, by rw [hxs.out]; exact Own.nil_, hB⟩
          · obtain rfl : rn = 1 := by omega
            obtain ⟨⟨A1, n1, c1⟩, hv1⟩ := get_some (xs := vs) (i := 0) (by rw [← hlen.out]; omega)
            obtain ⟨r, hr1⟩ := get_some (xs := xss) (i := 0) (by rw [← hrows.out.1, ← hlen.out]; omega)
            have hx1' : xss = [r] := by
              rw [cons_of_get hr1]
              rw [List.drop_eq_nil_of_le (by rw [← hrows.out.1, ← hlen.out]; omega)]
            have hres := hrows.out.2 0 _ _ hv1 hr1
            have hgd := hgood.out
            rw [hx1'] at hgd
            rw [good_one swo_E hgd] at hres
            obtain ⟨b, off, rfl, hra⟩ := rR.out.at_ (i := 0) (by rw [← hlen.out]; omega)
            have hcell := hra.sl hv1
            rw [Nat.add_zero] at hcell
            replace hres := hide hres
            replace hra := hide hra
            replace hv1 := hide hv1
            clear hgd hr1 hx1'
            go_wp2
            go_ret
            exact ⟨_, rfl, hres.out, hB⟩
end Go.Proofs.Ytepgpiolhiidiaa
