/- The document's next, Order and Depth of stage 07. -/
import Derived.Test.YtepgpiolhiidiaaTopLf
namespace Go.Proofs.Ytepgpiolhiidiaa
open Go.RowKit Go.Shelf
attribute [local go_sem] Oper.semAt_some

theorem next_at {nn : Nat} {xs : List (Int × Int × Int)} {T : List Int} {k : Nat} (h : ∀ j : Nat, j < k → freeV xs T (j : Int) = false) (hk : k < nn) (hf : freeV xs T (k : Int) = true) : nextN nn xs T = some (k : Int) := by
  obtain ⟨v, hv⟩ := next_any (n := nn) (u := (k : Int)) ⟨by omega, by omega⟩ hf
  obtain ⟨⟨h1, h2⟩, h3⟩ := next_some hv
  have h4 := next_least hv ⟨by omega, by omega⟩ hf
  obtain ⟨j, rfl⟩ : ∃ j : Nat, v = (j : Int) := ⟨v.toNat, by omega⟩
  by_cases hj : j < k
  · rw [h j hj] at h3
    cases h3
  · rw [hv, show j = k by omega]
theorem next_no {nn : Nat} {xs : List (Int × Int × Int)} {T : List Int} (h : ∀ j : Nat, j < nn → freeV xs T (j : Int) = false) : nextN nn xs T = none := by
  cases hv : nextN nn xs T with
  | none => rfl
  | some v =>
    obtain ⟨⟨h1, h2⟩, h3⟩ := next_some hv
    obtain ⟨j, rfl⟩ : ∃ j : Nat, v = (j : Int) := ⟨v.toNat, by omega⟩
    rw [h j (by omega)] at h3
    cases h3
theorem freeV_snoc {xs : List (Int × Int × Int)} {T : List Int} {v : Int} {k : Nat} {e : Int × Int × Int} (hx : xs[k]? = some e) : freeV (xs.take (k + 1)) T v = (freeV (xs.take k) T v && decide (e.2.1 = v → e.1 ∈ T)) := by
  unfold freeV
  rw [take_snoc hx, List.all_append, Bool.and_assoc]
  congr 2
  simp
def nxt (nn : Nat) (xs : List (Int × Int × Int)) (T : List Int) : Int := (nextN nn xs T).getD (-1)
set_option maxRecDepth 100000 in
set_option maxHeartbeats 4000000 in
theorem next7_any (nn : Nat) (A : Option Addr) (m c : Nat) (xs : List (Int × Int × Int)) (R : Option Addr) (cR : Nat) (T : List Int) (w : World) (hnn : nn ≤ 300) (h : Rd edgeE w.heap.size w A xs) (hm : m = xs.length) (hl : m ≤ 1000000) (hfr : ∀ e ∈ xs, 0 ≤ e.1 ∧ e.1 < nn) (hO : Rd boolE w.heap.size w R (rowB nn (goneF T))) :
    Calls Try.prog 39 #[.agg #[.int .i64 nn, .slice A m c], .slice R nn cR] w fun e w' => e = .returned (.int .i64 (nxt nn xs T)) ∧ Ext w w' := by
  obtain ⟨y, hy⟩ : ∃ y, y = nxt nn xs T := ⟨_, rfl⟩
  rw [← hy]
  replace hy := hide hy
  replace h := hide h
  replace hm := hide hm
  replace hO := hide hO
  replace hfr := hide hfr
  go_enter Try.func39, Try.ntmps39
  go_upto_region 1 with fail
  obtain ⟨w0, hw0⟩ : ∃ w0, w0 = w.alloc (.cells #[.int .i64 nn, .slice A m c] 24) := ⟨_, rfl⟩
  rw [← hw0]
  have hE0 : Ext w w0 := by rw [hw0]; exact (Below.refl _ _).alloc (Nat.le_refl _) _
  have X1 : BoxG w0 w.heap.size nn A m c := by rw [hw0]; exact BoxN.new w _ _
  clear hw0
  obtain ⟨pg, hpg⟩ : ∃ b, b = w.heap.size := ⟨_, rfl⟩
  rw [← hpg] at X1 ⊢
  have hpgle : w.heap.size ≤ pg := Nat.le_of_eq hpg.symm
  clear hpg
  have k10 := X1.cell 0 (v := .int .i64 nn) rfl
  have s1 := X1.lt
  go_wp2
  clear k10 s1
  go_loopw [11] (fun q wr => ∃ k : Nat, k ≤ nn ∧ q = .int .i64 k ∧ Hid (∀ j : Nat, j < k → freeV xs T (j : Int) = false) ∧ Ext w0 wr) (fun q _ => nn - (intOf q).toNat)
  case atStart => exact ⟨0, Nat.zero_le _, rfl, hide (fun j hj => by omega), Below.refl _ _⟩
  case round =>
    obtain ⟨k, hk, rfl, hcn, hE⟩ := hrel
    by_cases hlt : k < nn
    · have hlt' : (k : Int) < (nn : Int) := by omega
      have hk0 : (0 : Int) ≤ (k : Int) := by omega
      have hEw := hE0.trans (hE.mono hE0.size)
      obtain ⟨bg, og, rfl, rg⟩ := hO.out.at_ (i := k) (by rw [rowB_len]; exact hlt)
      have hg0 := (rg.below hEw).bool (rowB_get (f := goneF T) hlt)
      have hgb : bg < wr.heap.size := cell_lt hg0
      have hf0 : Hid ((!goneF T k) = freeV (xs.take 0) T (k : Int)) := hide (by unfold freeV goneF; simp)
      obtain ⟨z, hz⟩ : ∃ z, z = goneF T k := ⟨_, rfl⟩
      rw [← hz] at hg0 hf0
      replace hz := hide hz
      have k11 := (X1.ext hE).cell 1 (v := .slice A m c) rfl
      have s1 := (X1.ext hE).lt
      go_wp2
      clear hg0 k11 s1 hgb
      go_loopw [22, 6] (fun q ff wx => ∃ i : Nat, i ≤ m ∧ q = .int .i64 i ∧ ff = .bool (freeV (xs.take i) T (k : Int)) ∧ Ext w0 wx) (fun q _ _ => m - (intOf q).toNat)
      case atStart => exact ⟨0, Nat.zero_le _, rfl, by rw [hf0.out], hE⟩
      case round =>
        clear hE hf0 hEw
        obtain ⟨i, hi, rfl, rfl, hE⟩ := hrel
        by_cases hlt2 : i < m
        · have hlt2' : (i : Int) < (m : Int) := by omega
          obtain ⟨bk, off, rfl, ra⟩ := h.out.at_ (i := i) (by rw [← hm.out]; exact hlt2)
          obtain ⟨⟨p1, p2, p3⟩, hx⟩ := get_some (xs := xs) (i := i) (by rw [← hm.out]; exact hlt2)
          have hEw := hE0.trans (hE.mono hE0.size)
          obtain ⟨hx1, hx2, hx3⟩ := (ra.below hEw).edge hx
          have hbk : bk < wr.heap.size := cell_lt hx1
          obtain ⟨hp0, hpn⟩ := hfr.out _ (List.mem_of_getElem? hx)
          simp only at hp0 hpn
          obtain ⟨i1, rfl⟩ : ∃ i1 : Nat, p1 = (i1 : Int) := ⟨p1.toNat, by omega⟩
          have hin1 : i1 < nn := by omega
          have hfs := freeV_snoc (T := T) (v := (k : Int)) hx
          simp only at hfs
          obtain ⟨f0, hf0⟩ : ∃ f0, f0 = freeV (xs.take i) T (k : Int) := ⟨_, rfl⟩
          rw [← hf0] at hfs ⊢
          replace hf0 := hide hf0
          obtain ⟨w9, hw9⟩ : ∃ x, x = wr.alloc (.cells #[.int .i64 i1, .int .i64 p2, .int .i64 p3] 50) := ⟨_, rfl⟩
          have hE9 : Ext wr w9 := by rw [hw9]; exact (Below.refl _ _).alloc (Nat.le_refl _) _
          have X8 : BoxN w9 wr.heap.size 50 #[.int .i64 i1, .int .i64 p2, .int .i64 p3] := by rw [hw9]; exact BoxN.new _ _ _
          have hE19 := hE.trans (hE9.mono hE.size)
          have hg1 := (rg.below (hE0.trans (hE19.mono hE0.size))).bool (rowB_get (f := goneF T) hin1)
          have hgb1 : bg < w9.heap.size := cell_lt hg1
          obtain ⟨z1, hz1⟩ : ∃ z, z = goneF T i1 := ⟨_, rfl⟩
          rw [← hz1] at hg1
          have hdm : decide ((i1 : Int) ∈ T) = z1 := by rw [hz1]; rfl
          have k80 := X8.cell 0 (v := .int .i64 i1) rfl
          have k81 := X8.cell 1 (v := .int .i64 p2) rfl
          have s8 := X8.lt
          replace hx := hide hx
          replace ra := hide ra
          replace hz1 := hide hz1
          go_upto_region 8 with fail
          rw [← hw9]
          obtain ⟨pe, hpe⟩ : ∃ q, q = wr.heap.size := ⟨_, rfl⟩
          rw [← hpe] at k80 k81 s8 ⊢
          clear hw9 hpe hE9 hE hx1 hx2 hx3 hbk X8 hEw
          have hi0 : (0 : Int) ≤ (i1 : Int) := by omega
          by_cases hp2 : p2 = (k : Int)
          · have hp2' : (p2 == (k : Int)) = true := by simp [hp2]
            have hfs2 : freeV (xs.take (i + 1)) T (k : Int) = (f0 && z1) := by
              rw [hfs]
              congr 1
              rw [← hdm]
              simp [hp2]
            clear hfs hdm
            replace hp2 := hide hp2
            cases z1 with
            | true =>
              have hfs3 : Hid (freeV (xs.take (i + 1)) T (k : Int) = f0) := hide (by rw [hfs2, Bool.and_true])
              clear hfs2
              go_wp2
              refine ⟨⟨i + 1, by omega, by first | omega | go_num, by rw [hfs3.out], hE19⟩, ?_⟩
              simp [intOf]; omega
            | false =>
              have hfs3 : Hid (freeV (xs.take (i + 1)) T (k : Int) = false) := hide (by rw [hfs2, Bool.and_false])
              clear hfs2
              go_wp2
              refine ⟨⟨i + 1, by omega, by first | omega | go_num, by rw [hfs3.out], hE19⟩, ?_⟩
              simp [intOf]; omega
          · have hp2' : (p2 == (k : Int)) = false := by simp [hp2]
            have hfs3 : Hid (freeV (xs.take (i + 1)) T (k : Int) = f0) := hide (by
              rw [hfs, decide_eq_true (fun e => absurd e hp2), Bool.and_true])
            clear hfs hdm
            replace hp2 := hide hp2
            go_wp2
            refine ⟨⟨i + 1, by omega, by first | omega | go_num, by rw [hfs3.out], hE19⟩, ?_⟩
            simp [intOf]; omega
        · have hlt2' : ¬ (i : Int) < (m : Int) := by omega
          have hil : xs.take i = xs := List.take_of_length_le (by rw [← hm.out]; omega)
          rw [hil]
          clear hil
          cases hfv : freeV xs T (k : Int) with
          | true =>
            have hyk : Hid (y = (k : Int)) := hide (by rw [hy.out]; unfold nxt; rw [next_at hcn.out hlt hfv]; rfl)
            replace hfv := hide hfv
            clear hcn
            have hEf := hide (hE0.trans (hE.mono hE0.size))
            go_wp2
            go_ret
            exact ⟨by rw [hyk.out]; rfl, hEf.out⟩
          | false =>
            have hcn2 : Hid (∀ j : Nat, j < k + 1 → freeV xs T (j : Int) = false) := hide (fun j hj => by
              by_cases hjk : j = k
              · rw [hjk]; exact hfv
              · exact hcn.out j (by omega))
            replace hfv := hide hfv
            clear hcn
            go_wp2
            refine ⟨?_, ?_⟩
            · first
                | exact ⟨k + 1, by omega, by first | omega | go_num, hcn2, hE⟩
                | ((repeat apply Exists.intro); exact ⟨⟨k + 1, by omega, by first | omega | go_num, hcn2, hE⟩, rfl⟩)
            · first | (simp [intOf, lenV]; omega) | (simp [intOf]; omega) | (simp [intOf]; done)
    · have hlt' : ¬ (k : Int) < (nn : Int) := by omega
      have hyk : Hid (y = -1) := hide (by rw [hy.out]; unfold nxt; rw [next_no (fun j hj => hcn.out j (by omega))]; rfl)
      clear hcn
      have hEf := hide (hE0.trans (hE.mono hE0.size))
      go_wp2
      go_ret
      exact ⟨by rw [hyk.out]; rfl, hEf.out⟩
theorem nxt_cases {nn : Nat} {xs : List (Int × Int × Int)} {T : List Int} : (∃ i : Nat, i < nn ∧ nextN nn xs T = some (i : Int) ∧ nxt nn xs T = (i : Int)) ∨ (nextN nn xs T = none ∧ nxt nn xs T = -1) := by
  unfold nxt
  cases h : nextN nn xs T with
  | none => exact .inr ⟨rfl, rfl⟩
  | some v =>
    obtain ⟨⟨h1, h2⟩, -⟩ := next_some h
    exact .inl ⟨v.toNat, by omega, by rw [show ((v.toNat : Nat) : Int) = v by omega], by show v = _; omega⟩
def lenS : Value → Nat
  | .slice _ n _ => n
  | _ => 0
set_option maxRecDepth 100000 in
set_option maxHeartbeats 4000000 in
theorem refOrder_any (nn : Nat) (A : Option Addr) (m c : Nat) (xs : List (Int × Int × Int)) (w : World) (hnn : nn ≤ 300) (h : Rd edgeE w.heap.size w A xs) (hm : m = xs.length) (hl : m ≤ 1000000) (hfr : ∀ e ∈ xs, 0 ≤ e.1 ∧ e.1 < nn) :
    Calls Try.prog 18 #[.agg #[.int .i64 nn, .slice A m c]] w fun e w' => ∃ u v, e = .returned (.tuple #[u, v]) ∧ Own intE 3 w.heap.size w' u (ordN nn xs) ∧ Own intE 3 w.heap.size w' v (leftN nn xs) ∧ Ext w w' := by
  replace h := hide h
  replace hm := hide hm
  replace hfr := hide hfr
  go_enter Try.func18, Try.ntmps18
  go_upto_region 2 with fail
  obtain ⟨w0, hw0⟩ : ∃ w0, w0 = w.alloc (.cells #[.int .i64 nn, .slice A m c] 24) := ⟨_, rfl⟩
  rw [← hw0]
  have hE0 : Ext w w0 := by rw [hw0]; exact (Below.refl _ _).alloc (Nat.le_refl _) _
  have X1 : BoxG w0 w.heap.size nn A m c := by rw [hw0]; exact BoxN.new w _ _
  clear hw0
  obtain ⟨pg, hpg⟩ : ∃ b, b = w.heap.size := ⟨_, rfl⟩
  rw [← hpg] at X1 ⊢
  have hpgle : w.heap.size ≤ pg := Nat.le_of_eq hpg.symm
  clear hpg
  have k10 := X1.cell 0 (v := .int .i64 nn) rfl
  have k11 := X1.cell 1 (v := .slice A m c) rfl
  have s1 := X1.lt
  go_wp2_with (at_make; refine wpList_make (base := w.heap.size) tyBool rfl _ _ rfl (n := nn) zero_bool rfl rfl rfl rfl (by omega) hE0.size ?_)
  intro w2 hown hgr
  have hE2 := grown_none hgr
  obtain ⟨gR, hgR⟩ : ∃ q, q = w0.heap.size := ⟨_, rfl⟩
  have hown1 : Own boolE 4 w.heap.size w2 (.slice (some ⟨gR, 0, none⟩) nn nn) (rowB nn (goneF [])) := by rw [hgR, ← goneF_nil]; exact hown
  rw [← hgR]
  have hpR : pg < gR := by rw [hgR]; exact X1.lt
  have X2 := X1.ext hE2
  have hB2 := hE0.trans (hE2.mono hE0.size)
  clear hown hgr hgR k10 k11 s1 X1 hE2
  have k10 := X2.cell 0 (v := .int .i64 nn) rfl
  have k11 := X2.cell 1 (v := .slice A m c) rfl
  have s1 := X2.lt
  go_wp2_with fail
  refine (next7_any nn A m c xs (some ⟨gR, 0, none⟩) nn [] _ hnn (h.out.ext hB2) hm.out hl hfr.out (rdO hown1)).mono ?_
  rintro e w3 ⟨rfl, hE3⟩
  have hB3 := hB2.trans (hE3.mono hB2.size)
  replace X2 := hide (X2.ext hE3)
  replace hown1 := hide (hown1.ext hE3)
  have hnil : Hid (Own intE 3 w.heap.size w3 (.slice none 0 0) (itN nn xs 0)) := hide Own.nil_
  have hl0 : Hid ((itN nn xs 0).length = 0) := hide rfl
  clear k10 k11 s1 hE3
  go_wp2
  go_loopw [4, 7] (fun o q wr => ∃ (j : Nat), j ≤ nn ∧ lenS o = j ∧ q = .int .i64 (nxt nn xs (itN nn xs j)) ∧ Hid ((itN nn xs j).length = j) ∧ Hid (Own intE 3 w.heap.size wr o (itN nn xs j)) ∧ Hid (Own boolE 4 w.heap.size wr (.slice (some ⟨gR, 0, none⟩) nn nn) (rowB nn (goneF (itN nn xs j)))) ∧ Hid (BoxG wr pg nn A m c) ∧ Below w.heap.size w wr) (fun o _ _ => nn - lenS o)
  case atStart => exact ⟨0, Nat.zero_le _, rfl, rfl, hl0, hnil, hown1, X2, hB3⟩
  case round =>
    clear hnil hown1 X2 hB3 hl0
    obtain ⟨j, hj, hlo, rfl, hlen, hO, hrow, X2, hB3⟩ := hrel
    obtain ⟨A4, c4, rfl, -, -, -⟩ := hO.out.rd
    rw [hlen.out] at hO hlo ⊢
    clear hlo
    obtain ⟨T, hT⟩ : ∃ T, T = itN nn xs j := ⟨_, rfl⟩
    rw [← hT] at hO hrow hlen ⊢
    rcases nxt_cases (nn := nn) (xs := xs) (T := T) with ⟨i, hin, hnx, hny⟩ | ⟨hnx, hny⟩
    · rw [hny]
      have hit := it_some (n := nn) (xs := xs) (k := j) (by rw [← hT]; exact hnx)
      rw [← hT] at hit
      have hj1 : j + 1 ≤ nn := by
        have h7 := it_le (n := nn) (xs := xs) (j + 1)
        rw [hit, List.length_append, hlen.out] at h7
        exact h7
      have hlen2 : Hid ((itN nn xs (j + 1)).length = j + 1) := hide (by rw [hit, List.length_append, hlen.out]; rfl)
      have hi0 : (0 : Int) ≤ (i : Int) := by omega
      have hin' : (i : Int) < (nn : Int) := by omega
      obtain ⟨g, u, hg0, hgb, hgs, hg3, hg4, hS⟩ := hrow.out.setB hin true
      injection hg0 with hg1
      injection hg1 with hg2
      subst hg2
      have hrw : rowB nn (goneF (T ++ [(i : Int)])) = (rowB nn (goneF T)).set i true := by
        rw [rowB_set]
        exact rowB_congr fun j _ => goneF_step T i j
      rw [← hrw] at hS
      have hdis : ∀ k, (Value.slice A4 j c4).ownBlock = some k → k ≠ gR := fun k hk e => by
        subst e
        obtain ⟨c1, h1⟩ := hO.out.block k hk
        obtain ⟨c2, h2⟩ := hrow.out.block k rfl
        rw [h1] at h2
        injection h2 with h2
        injection h2 with _ h2
        cases h2
      have hO1 := hO.out.stir (Stir.setCell (O := [gR]) (p := ⟨gR, i, none⟩) (by simp) wr (.bool true)) (fun k hk hc => hdis k hk (by simpa using hc))
      have X21 := X2.out.stir (Stir.setCell (O := [gR]) (p := ⟨gR, i, none⟩) (by simp) wr (.bool true)) (fun hc => absurd (show pg = gR by simpa using hc) (by omega))
      have hB31 := hB3.setCell (p := ⟨gR, i, none⟩) hgb (.bool true)
      obtain ⟨w5, hw5⟩ : ∃ q, q = wr.setCell ⟨gR, i, none⟩ (.bool true) := ⟨_, rfl⟩
      have hs5 : w5.heap.size = wr.heap.size := by rw [hw5]; simp
      have hr5 := rd_newAt (e := 3) intE w5 (i : Int) wr.heap.size hs5
      rw [← hw5] at hS hO1 X21 hB31
      have hO2 := hO1.alloc (.cells (intE.cs (i : Int)).toArray 3)
      have hS2 := hS.alloc (.cells (intE.cs (i : Int)).toArray 3)
      have X22 := X21.alloc (.cells (intE.cs (i : Int)).toArray 3)
      have hB32 := hB31.alloc hB31.size (.cells (intE.cs (i : Int)).toArray 3)
      rw [hw5] at hr5 hO2
      replace hr5 := hide hr5
      replace hO2 := hide hO2
      replace hS2 := hide hS2
      replace X22 := hide X22
      replace hB32 := hide hB32
      replace hrw := hide hrw
      replace hit := hide hit
      replace hnx := hide hnx
      replace hny := hide hny
      replace hT := hide hT
      have hsz : w.heap.size ≤ w5.heap.size := hB31.size
      rw [hw5] at hsz
      clear hO hrow X2 hB3 hS hO1 X21 hB31 hdis
      go_wp2_with (at_builtin; refine wpList_app tyInt rfl (.tmp 23) (.tmp 25) rfl rfl hO2.out rfl hr5.out rfl (by have := hlen.out; simp; omega) (by simp at hsz ⊢; omega) ?_)
      intro v' w9 hown hgr hne hnl
      rw [← hw5] at hgr
      replace hO2 := hO2.out
      rw [← hw5] at hO2
      have hS3 := hS2.out.app hO2 hgr (by decide)
      have X23 : BoxG w9 pg nn A m c := X22.out.grown hgr (fun e => by
        obtain ⟨cc, hcc⟩ := hO2.block pg e.symm
        have h9 := X22.out
        unfold BoxG BoxN at h9
        rw [hcc] at h9
        injection h9 with h9
        injection h9 with _ h9
        cases h9)
      have hB4 := Own.below hO2 hB32.out hgr (by rw [hw5]; simp at hsz ⊢; omega)
      rw [← hit.out] at hown hS3
      clear hO2 hr5 hS2 X22 hB32 hgr hne hnl hw5 hg3 hg4 hgs
      replace hown := hide hown
      have k10 := X23.cell 0 (v := .int .i64 nn) rfl
      have k11 := X23.cell 1 (v := .slice A m c) rfl
      have s1 := X23.lt
      obtain ⟨A9, c9, rfl, -, -, -⟩ := hown.out.rd
      rw [hlen2.out] at hown ⊢
      go_wp2_with fail
      refine (next7_any nn A m c xs (some ⟨gR, 0, none⟩) nn (itN nn xs (j + 1)) _ hnn (h.out.ext hB4) hm.out hl hfr.out (rdO hS3)).mono ?_
      rintro e w10 ⟨rfl, hE⟩
      replace hown := hide (hown.out.ext hE)
      have hS4 := hide (hS3.ext hE)
      have X24 := hide (X23.ext hE)
      have hB5 := hB4.trans (hE.mono hB4.size)
      clear hS3 X23 hE hB4 k10 k11 s1
      go_wp2
      refine ⟨⟨j + 1, by omega, rfl, by first | rfl | skip, hlen2, hown, hS4, X24, hB5⟩, ?_⟩
      simp [lenS]; omega
    · rw [hny]
      have hTo : T = ordN nn xs := by rw [hT]; exact ord_of (by rw [← hT]; exact hnx) hj
      rw [hTo] at hO hrow
      have hOl : Hid ((ordN nn xs).length = j) := hide (by rw [← hTo]; exact hlen.out)
      clear hT hTo hnx hny hlen
      have hnil : Hid (Own intE 3 wr.heap.size wr (.slice none 0 0) ((nodes 0).filter fun v => !decide (v ∈ ordN nn xs))) := hide Own.nil_
      have hB3s := hB3.size
      obtain ⟨wf, hwf⟩ : ∃ q, q = wr := ⟨_, rfl⟩
      rw [← hwf] at hO hrow hB3 hnil hB3s ⊢
      clear X2 hwf
      go_wp2
      go_loopw [29, 5] (fun q v wx => ∃ k : Nat, k ≤ nn ∧ q = .int .i64 k ∧ Hid (Own intE 3 wf.heap.size wx v ((nodes k).filter fun v => !decide (v ∈ ordN nn xs))) ∧ Ext wf wx) (fun q _ _ => nn - (intOf q).toNat)
      case atStart => exact ⟨0, Nat.zero_le _, rfl, hnil, Below.refl _ _⟩
      case round =>
        clear hnil
        obtain ⟨k, hk, rfl, hO7, hE⟩ := hrel
        by_cases hlt : k < nn
        · have hlt' : (k : Int) < (nn : Int) := by omega
          have hk0 : (0 : Int) ≤ (k : Int) := by omega
          obtain ⟨g, hg0, hgs, hc⟩ := (hrow.out.ext hE).atB (rowB_get (f := goneF (ordN nn xs)) hlt)
          injection hg0 with hg1
          injection hg1 with hg2
          subst hg2
          have hnk : (nodes (k + 1)).filter (fun v => !decide (v ∈ ordN nn xs)) = (nodes k).filter (fun v => !decide (v ∈ ordN nn xs)) ++ (if goneF (ordN nn xs) k = true then [] else [(k : Int)]) := by
            rw [nodes_snoc, List.filter_append]
            congr 1
            unfold goneF
            by_cases hm' : (k : Int) ∈ ordN nn xs
            · simp [hm']
            · simp [hm']
          cases hgk : goneF (ordN nn xs) k with
          | true =>
            rw [hgk] at hc hnk
            rw [if_pos rfl, List.append_nil] at hnk
            rw [← hnk] at hO7
            replace hgk := hide hgk
            clear hnk
            go_wp2
            refine ⟨?_, ?_⟩
            · first
                | exact ⟨k + 1, by omega, by first | omega | go_num, hO7, hE⟩
                | ((repeat apply Exists.intro); exact ⟨⟨k + 1, by omega, by first | omega | go_num, hO7, hE⟩, rfl⟩)
            · first | (simp [intOf, lenV]; omega) | (simp [intOf]; omega) | (simp [intOf]; done)
          | false =>
            rw [hgk] at hc hnk
            rw [if_neg (by decide)] at hnk
            replace hgk := hide hgk
            replace hnk := hide hnk
            have hr4 := hide (rd_newAt (e := 3) intE wr (k : Int) wr.heap.size rfl)
            have hO1 := hide (hO7.out.alloc (.cells (intE.cs (k : Int)).toArray 3))
            have hB1 := hide (hE.alloc hE.size (.cells (intE.cs (k : Int)).toArray 3))
            have hfl : ((nodes k).filter fun v => !decide (v ∈ ordN nn xs)).length ≤ 300 := by
              have h1 := List.length_filter_le (fun v => !decide (v ∈ ordN nn xs)) (nodes k)
              rw [nodes_len] at h1
              omega
            have hsz : wf.heap.size ≤ (wr.alloc (.cells (intE.cs (k : Int)).toArray 3)).heap.size := by have := hE.size; simp; omega
            obtain ⟨A8, c8, rfl, -, -, -⟩ := hO7.out.rd
            clear hO7 hE
            go_wp2_with (at_builtin; refine wpList_app tyInt rfl (.tmp 37) (.tmp 39) rfl rfl hO1.out rfl hr4.out rfl (by simp; omega) (by simpa using hsz) ?_)
            intro v' w9 hown hgr hne hnl
            have hB2 := hide (Own.below hO1.out hB1.out hgr (by simpa using hsz))
            rw [← hnk.out] at hown
            replace hown := hide hown
            clear hO1 hr4 hB1 hgr hne hnl hc
            go_wp2
            refine ⟨?_, ?_⟩
            · first
                | exact ⟨k + 1, by omega, by first | omega | go_num, hown, hB2.out⟩
                | ((repeat apply Exists.intro); exact ⟨⟨k + 1, by omega, by first | omega | go_num, hown, hB2.out⟩, rfl⟩)
            · first | (simp [intOf, lenV]; omega) | (simp [intOf]; omega) | (simp [intOf]; done)
        · have hlt' : ¬ (k : Int) < (nn : Int) := by omega
          have hkn : k = nn := by omega
          have hfin : Hid (Own intE 3 w.heap.size wr u5 (leftN nn xs)) := hide (by have := hO7.out; rw [hkn] at this; exact this.base_le hB3s)
          have hOf := hide (hO.out.ext hE)
          have hEf := hide (hB3.trans (hE.mono hB3.size))
          clear hO7 hkn hrow hO hE
          go_wp2
          go_ret2
          exact ⟨_, _, rfl, hOf.out, hfin.out, hEf.out⟩
end Go.Proofs.Ytepgpiolhiidiaa
