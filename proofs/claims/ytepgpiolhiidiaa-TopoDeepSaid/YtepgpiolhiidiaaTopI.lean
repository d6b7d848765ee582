/- topo.Depth. -/
import Derived.Test.YtepgpiolhiidiaaTopG
import Derived.Test.YtepgpiolhiidiaaTopP
namespace Go.Proofs.Ytepgpiolhiidiaa
open Go.RowKit Go.Shelf
attribute [local go_sem] Oper.semAt_some

section
variable {n : Nat} {xs : List (Int × Int × Int)}
theorem it_lek (k : Nat) : (itN n xs k).length ≤ k := by
  induction k with
  | zero => exact Nat.le_refl _
  | succ k ih =>
    cases h : nextN n xs (itN n xs k) with
    | none => rw [it_none h]; omega
    | some v => rw [it_some h, List.length_append, List.length_singleton]; omega
theorem it_full (hl : (ordN n xs).length = n) {k : Nat} (hk : k ≤ n) : (itN n xs k).length = k := by
  rcases it_len (n := n) (xs := xs) k with h | h
  · exact h
  · have h1 := ord_of h hk
    have h2 := it_lek (n := n) (xs := xs) k
    rw [h1, hl] at h2
    rw [h1, hl]
    omega
theorem ord_take (hl : (ordN n xs).length = n) {k : Nat} (hk : k ≤ n) : (ordN n xs).take k = itN n xs k := by
  obtain ⟨r, h⟩ := it_prefix (n := n) (xs := xs) k (n - k)
  rw [show k + (n - k) = n by omega] at h
  rw [show ordN n xs = itN n xs k ++ r from h, List.take_left' (it_full hl hk)]
theorem ord_at (hl : (ordN n xs).length = n) {k : Nat} (hk : k < n) {v : Int} (hv : (ordN n xs)[k]? = some v) : v ∉ (ordN n xs).take k ∧ ClosedT xs ((ordN n xs).take k) ∧ (ordN n xs).take (k + 1) = (ordN n xs).take k ++ [v] :=
  ⟨nodup_take ord_nodup.1 hv, by rw [ord_take hl (by omega)]; exact closed_it k, take_snoc hv⟩
theorem relax_max (d : Int → Int) (e : Int × Int × Int) (u : Int) : relax d e u = if u = e.2.1 then max (d u) (d e.1 + 1) else d u := by
  unfold relax
  by_cases h : u = e.2.1
  · rw [if_pos h, if_pos h]
    by_cases h2 : d u < d e.1 + 1
    · rw [if_pos h2]; omega
    · rw [if_neg h2]; omega
  · rw [if_neg h, if_neg h]
end
def depL (n : Int) (xs : List (Int × Int × Int)) : List Int := if ordB n xs = true then rowF n.toNat (fun j => rounds xs n.toNat (j : Int)) else []
def dR (d : Int → Int) (j : Nat) : Int := d (j : Int)
theorem dR_zero (nn : Nat) : List.replicate nn (0 : Int) = rowF nn (dR fun _ => 0) := by rw [rowF_zero]; rfl
set_option maxRecDepth 100000 in
set_option maxHeartbeats 8000000 in
theorem depth_any (n : Int) (A : Option Addr) (m c : Nat) (xs : List (Int × Int × Int)) (w : World) (h : Rd edgeE w.heap.size w A xs) (hm : m = xs.length) (hmc : m ≤ c) (hl : m ≤ 1000000) :
    Calls Try.prog 17 #[.agg #[.int .i64 n, .slice A m c]] w fun e w' => ∃ v, e = .returned (.tuple #[v, .bool (ordB n xs), .int .i64 (chkG n xs)]) ∧ Own intE 3 w.heap.size w' v (depL n xs) ∧ Ext w w' := by
  obtain ⟨y1, hy1⟩ : ∃ q, q = depL n xs := ⟨_, rfl⟩
  obtain ⟨y2, hy2⟩ : ∃ q, q = ordB n xs := ⟨_, rfl⟩
  obtain ⟨y3, hy3⟩ : ∃ q, q = chkG n xs := ⟨_, rfl⟩
  have hord := fun W hR => order_any n A m c xs W hR hm hmc hl
  rw [← hy2, ← hy3] at hord
  rw [← hy1, ← hy2, ← hy3]
  replace hy1 := hide hy1
  replace hy2 := hide hy2
  replace hy3 := hide hy3
  replace hord := hide hord
  replace h := hide h
  replace hm := hide hm
  go_enter Try.func17, Try.ntmps17
  go_upto_region 1 with fail
  obtain ⟨w0, hw0⟩ : ∃ w0, w0 = w.alloc (.cells #[.int .i64 n, .slice A m c] 24) := ⟨_, rfl⟩
  rw [← hw0]
  have hE0 : Ext w w0 := by rw [hw0]; exact (Below.refl _ _).alloc (Nat.le_refl _) _
  have X1 : BoxG w0 w.heap.size n A m c := by rw [hw0]; exact BoxN.new w _ _
  clear hw0
  obtain ⟨pg, hpg⟩ : ∃ b, b = w.heap.size := ⟨_, rfl⟩
  rw [← hpg] at X1 ⊢
  clear hpg
  have k10 := X1.cell 0 (v := .int .i64 n) rfl
  have k11 := X1.cell 1 (v := .slice A m c) rfl
  have s1 := X1.lt
  go_wp2_with fail
  refine (hord.out _ (h.out.ext hE0)).mono ?_
  rintro e w1 ⟨v, rfl, hO, hE⟩
  replace X1 := X1.ext hE
  have hB := hE0.trans (hE.mono hE0.size)
  obtain ⟨A5, c5, rfl, -, -, -⟩ := hO.rd
  generalize hL5 : (ordL n xs).length = L5 at *
  replace hL5 := hide hL5
  replace hO := hide hO
  clear k10 k11 s1 hE hord
  cases y2 with
  | false =>
    have v1 : Hid (y1 = []) := hide (by rw [hy1.out]; unfold depL; rw [if_neg (by rw [← hy2.out]; decide)])
    go_wp2
    go_ret3
    exact ⟨_, rfl, by rw [v1.out]; exact Own.nil_, hB⟩
  | true =>
    have hob := hy2.out
    unfold ordB at hob
    have hob2 := hob.symm
    rw [Bool.and_eq_true, decide_eq_true_eq] at hob2
    obtain ⟨hr, hln⟩ := hob2
    clear hob
    obtain ⟨r1, r2, r3, r4, r5⟩ := (rightG_iff n xs).1 hr
    obtain ⟨nn, rfl⟩ : ∃ nn : Nat, n = nn := ⟨n.toNat, by omega⟩
    rw [Int.toNat_natCast] at hln
    have hnn : nn ≤ 300 := by omega
    have hml : m ≤ 40000 := by have := hm.out; omega
    have hfr : Hid (∀ x ∈ xs, (0 ≤ x.1 ∧ x.1 < nn) ∧ (0 ≤ x.2.1 ∧ x.2.1 < nn) ∧ x.1 ≠ x.2.1) := hide (fun x hx => by have := (rightE_iff _ x).1 (r4 x hx); omega)
    have hLe : ordL (nn : Int) xs = ordN nn xs := by unfold ordL; rw [if_pos ⟨hr, by rw [Int.toNat_natCast]; exact hln⟩, Int.toNat_natCast]
    have hL5e : L5 = nn := by rw [← hL5.out, hLe, hln]
    subst hL5e
    have hO1 := hO.out
    rw [hLe] at hO1
    replace hO1 := hide hO1
    have hy1' : Hid (y1 = rowF L5 (fun j => rounds xs L5 (j : Int))) := hide (by rw [hy1.out]; unfold depL; rw [if_pos hy2.out.symm, Int.toNat_natCast])
    have hst := fun W hR => starts_any L5 A m c xs W hR hm.out hl
    replace hst := hide hst
    replace hr := hide hr
    replace hln := hide hln
    replace r5 := hide r5
    clear hO hL5 hLe hy1 hy2 r1 r2 r3 r4
    have k10 := X1.cell 0 (v := .int .i64 (L5 : Int)) rfl
    have k11 := X1.cell 1 (v := .slice A m c) rfl
    have s1 := X1.lt
    go_wp2_with fail
    refine (hst.out _ (h.out.ext hB)).mono ?_
    rintro e w2 ⟨vs, rfl, hO2, hE2⟩
    rw [chkG_yes hr.out]
    have hS1 : Own intE 3 w1.heap.size w2 vs (starts xs (L5 + 1)) := by
      have h1 := hO2
      unfold startL at h1
      rw [if_pos hr.out] at h1
      simpa using h1
    obtain ⟨As, cs, rfl, -, -, -⟩ := hS1.rd
    have hls : (starts xs (L5 + 1)).length = L5 + 1 := by rw [starts_rowF, rowF_len]
    rw [hls] at hS1 ⊢
    replace hS1 := hide hS1
    replace hO1 := hide (hO1.out.ext hE2)
    replace X1 := X1.ext hE2
    have hB2 := hB.trans (hE2.mono hB.size)
    clear hO2 hst hls k10 k11 s1 hB hE2
    have k10 := X1.cell 0 (v := .int .i64 (L5 : Int)) rfl
    have s1 := X1.lt
    go_wp2_with (at_make; refine wpList_make (base := w2.heap.size) tyInt rfl _ _ rfl (n := L5) zero_intT rfl rfl rfl rfl (by omega) (Nat.le_refl _) ?_)
    intro w3 hown hgr
    have hE3 := grown_none hgr
    obtain ⟨cR, hcR⟩ : ∃ q, q = w2.heap.size := ⟨_, rfl⟩
    rw [← hcR] at hown
    have hown1 : Hid (Own intE 3 w2.heap.size w3 (.slice (some ⟨cR, 0, none⟩) L5 L5) (rowF L5 (dR fun _ => 0))) := hide (by rw [← dR_zero, ← hcR]; exact hown)
    rw [← hcR]
    clear hown hgr k10 s1
    replace hcR := hide hcR
    have hDI : Hid (DInv xs ((ordN L5 xs).take 0) [] (fun _ => 0) ∧ ∀ u : Int, (fun _ => (0 : Int)) u ≤ ((0 : Nat) : Int)) := hide ⟨dinv_nil, fun _ => Int.le_refl _⟩
    go_wp2
    go_loopw [34] (fun q wr => ∃ (k : Nat) (d : Int → Int), k ≤ L5 ∧ q = .int .i64 k ∧ Hid (DInv xs ((ordN L5 xs).take k) [] d ∧ ∀ u, d u ≤ (k : Int)) ∧ Hid (Own intE 3 w2.heap.size wr (.slice (some ⟨cR, 0, none⟩) L5 L5) (rowF L5 (dR d))) ∧ Ext w2 wr) (fun q _ => L5 - (intOf q).toNat)
    case atStart => exact ⟨0, _, Nat.zero_le _, rfl, hDI, hown1, hE3⟩
    case round =>
      clear hDI hown1 hE3
      obtain ⟨k, d, hk, rfl, hDI, hown1, hE3⟩ := hrel
      by_cases hlt : k < L5
      · have hlt' : (k : Int) < (L5 : Int) := by omega
        have X2 := X1.ext hE3
        have hS2 := hS1.out.ext hE3
        have hO2 := hO1.out.ext hE3
        obtain ⟨x, hx⟩ := get_some (xs := ordN L5 xs) (i := k) (by rw [hln.out]; exact hlt)
        obtain ⟨go, hAo, hgo, v0⟩ := hO2.at1 hlt
        rw [gi_some hx] at v0
        subst hAo
        obtain ⟨hxp, hclo, htk⟩ := ord_at hln.out hlt hx
        obtain ⟨hx0, hxn⟩ := ord_nodup.2 x (List.mem_of_getElem? hx)
        obtain ⟨i, rfl⟩ : ∃ i : Nat, x = (i : Int) := ⟨x.toNat, by omega⟩
        have hin : i < L5 := by omega
        obtain ⟨es, hes⟩ : ∃ es, es = xs.filter (fun e => decide (e.1 = (i : Int))) := ⟨_, rfl⟩
        have hbt := out_between r5.out i
        rw [← hes] at hbt
        have d1 := cntB_mono xs i
        have d2 := cntB_le xs (i + 1)
        rw [← hm.out] at d2
        have c1 := gi_some (starts_get (a := xs) (N := L5 + 1) (v := i) (by omega))
        have c2 := gi_some (starts_get (a := xs) (N := L5 + 1) (v := i + 1) (by omega))
        obtain ⟨ia, hia⟩ : ∃ q, q = cntB xs i := ⟨_, rfl⟩
        obtain ⟨ja, hja⟩ : ∃ q, q = cntB xs (i + 1) := ⟨_, rfl⟩
        rw [← hia] at d1 c1 hbt
        rw [← hja] at d1 d2 c2 hbt
        obtain ⟨m6, hm6⟩ : ∃ q, q = ja - ia := ⟨_, rfl⟩
        have hlen6 : es.length = m6 := by rw [← hbt, List.length_take, List.length_drop, ← hm.out]; omega
        have hrs := ((h.out.ext hB2).cut (k := ia) (c := c) (by rw [← hm.out]; exact hmc)).take (ja - ia)
        rw [hbt] at hrs
        obtain ⟨sR, hAs, sb, v1⟩ := hS2.at1 (i := i) (by omega)
        subst hAs
        obtain ⟨b2, hb2, -, v2⟩ := hS2.at1 (i := i + 1) (by omega)
        injection hb2 with hb2
        injection hb2 with hb2
        subst hb2
        rw [c1] at v1
        rw [c2] at v2
        clear hia hja c1 c2 hbt hO2 hS2
        replace hes := hide hes
        replace hlen6 := hide hlen6
        replace hrs := hide hrs
        replace hx := hide hx
        replace hxp := hide hxp
        replace hclo := hide hclo
        replace htk := hide htk
        have k1 := X2.cell 1 (v := .slice A m c) rfl
        have sg := X2.lt
        have f0 : (0 : Int) ≤ (i : Int) := by omega
        have f1 : (i : Int) < (L5 : Int) + 1 := by omega
        have f2 : (i : Int) + 1 < (L5 : Int) + 1 := by omega
        have f3 : IntKind.i64.wrap ((i : Int) + 1) = (i : Int) + 1 := IntWalk.i64_in _ (by omega)
        have f4 : ((i : Int) + 1).toNat = i + 1 := by omega
        have f5 : (0 : Int) ≤ (i : Int) + 1 := by omega
        have f6 : (ia : Int) ≤ (ja : Int) := by omega
        have f7 : (ja : Int) ≤ (c : Int) := by omega
        have f8 : (ja : Int) - (ia : Int) = ((m6 : Nat) : Int) := by omega
        have f9 : ja - ia = m6 := by omega
        have f10 : ia ≤ ja := by omega
        have f11 : ja ≤ c := by omega
        replace hm6 := hide hm6
        go_upto_region 9 with fail
        refine wp_region_reads [(0, true), (1, true), (2, true), (3, true), (4, true), (5, true), (6, true), (7, true), (8, true), (9, true), (10, true), (11, true), (12, true), (13, true)] (by kernel_rfl) (by kernel_rfl) (by kernel_rfl) (by kernel_rfl) (fun _ _ d _ _ h => by cases d <;> exact h) ?_
        iterate 14
          apply mix_q rfl rfl
          · intro W hW
            subst hW
            go_simp
            try exact rfl
          simp only [Act.put, List.setIfInBounds_toArray, List.set_cons_zero, List.set_cons_succ]
        refine mix_nil ?_
        obtain ⟨w8, hw8⟩ : ∃ q, q = wr.drew := ⟨_, rfl⟩
        rw [← hw8]
        have hE8 : Ext w2 w8 := by rw [hw8]; exact hE3.drew
        have hown8 : Hid (Own intE 3 w2.heap.size w8 (.slice (some ⟨cR, 0, none⟩) L5 L5) (rowF L5 (dR d))) := hide (by rw [hw8]; exact hown1.out)
        obtain ⟨As, hAs⟩ : ∃ q : Option Addr, q = (if c = ia then A else A.map (·.add (ia * 3))) := ⟨_, rfl⟩
        rw [← hAs]
        have hrs2 : Hid (Rd edgeE w2.heap.size w2 As es) := hide (by rw [hAs]; exact hrs.out)
        clear hrs hAs hw8 hE3 hown1 v0 v1 v2 k1 sg f0 f1 f2 f3 f4 f5 f6 f7 f8 f10 f11 X2 sb hgo
        have hDJ : Hid (DInv xs ((ordN L5 xs).take k) (es.take 0) d ∧ (∀ u, d u ≤ (k : Int) + 1) ∧ d (i : Int) ≤ (k : Int)) := hide ⟨hDI.out.1, fun u => by have := hDI.out.2 u; omega, hDI.out.2 _⟩
        clear hDI
        go_wp2
        go_loopw [51] (fun q wx => ∃ (k2 : Nat) (d : Int → Int), k2 ≤ m6 ∧ q = .int .i64 k2 ∧ Hid (DInv xs ((ordN L5 xs).take k) (es.take k2) d ∧ (∀ u, d u ≤ (k : Int) + 1) ∧ d (i : Int) ≤ (k : Int)) ∧ Hid (Own intE 3 w2.heap.size wx (.slice (some ⟨cR, 0, none⟩) L5 L5) (rowF L5 (dR d))) ∧ Ext w2 wx) (fun q _ => m6 - (intOf q).toNat)
        case atStart => exact ⟨0, d, Nat.zero_le _, rfl, hDJ, hown8, hE8⟩
        case round =>
          clear hDJ hown8 hE8
          obtain ⟨k2, d, hk2, rfl, hDJ, hown8, hE8⟩ := hrel
          by_cases hlt2 : k2 < m6
          · have hlt2' : (k2 : Int) < (m6 : Int) := by omega
            obtain ⟨bk, off, rfl, ra⟩ := hrs2.out.at_ (i := k2) (by rw [hlen6.out]; exact hlt2)
            obtain ⟨⟨p1, p2, p3⟩, hx2⟩ := get_some (xs := es) (i := k2) (by rw [hlen6.out]; exact hlt2)
            obtain ⟨q1, q2, q3⟩ := (ra.below hE8).edge hx2
            have hbk : bk < wr.heap.size := cell_lt q1
            have hmem : (p1, p2, p3) ∈ xs ∧ p1 = (i : Int) := by
              have h1 := List.mem_of_getElem? hx2
              rw [hes.out, List.mem_filter] at h1
              exact ⟨h1.1, by simpa using h1.2⟩
            obtain ⟨hexs, rfl⟩ := hmem
            obtain ⟨-, ⟨hp0, hpn⟩, hpne⟩ := hfr.out _ hexs
            simp only at hp0 hpn hpne
            obtain ⟨i2, rfl⟩ : ∃ i2 : Nat, p2 = (i2 : Int) := ⟨p2.toNat, by omega⟩
            have hin2 : i2 < L5 := by omega
            have hnp : ((i2 : Int)) ∉ (ordN L5 xs).take k := fun hc => hxp.out (hclo.out _ hexs hc)
            have hts : es.take (k2 + 1) = es.take k2 ++ [((i : Int), (i2 : Int), p3)] := take_snoc hx2
            have hqf : ∀ e ∈ es.take k2, e.1 = (i : Int) := fun e he => by
              have h1 := List.mem_of_mem_take he
              rw [hes.out, List.mem_filter] at h1
              simpa using h1.2
            obtain ⟨j1, j2, j3⟩ := hDJ.out
            obtain ⟨y, hy⟩ : ∃ y, y = d (i2 : Int) := ⟨_, rfl⟩
            obtain ⟨z, hz⟩ : ∃ z, z = d (i : Int) := ⟨_, rfl⟩
            have hyb : 0 ≤ y ∧ y ≤ 301 := by have h1 := (j1.1 (i2 : Int)).1; have h2 := j2 (i2 : Int); omega
            have hzb : 0 ≤ z ∧ z ≤ 300 := by have h1 := (j1.1 (i : Int)).1; omega
            have ew : IntKind.i64.wrap (z + 1) = z + 1 := IntWalk.i64_in _ (by omega)
            have hDK : Hid (DInv xs ((ordN L5 xs).take k) (es.take (k2 + 1)) (relax d ((i : Int), (i2 : Int), p3)) ∧ (∀ u, relax d ((i : Int), (i2 : Int), p3) u ≤ (k : Int) + 1) ∧ relax d ((i : Int), (i2 : Int), p3) (i : Int) ≤ (k : Int)) := hide (by
              refine ⟨by rw [hts]; exact dinv_step j1 hqf hexs rfl hnp (fun e => hpne e.symm), fun u => ?_, ?_⟩
              · rw [relax_max]
                split
                · have := j2 u
                  simp only
                  omega
                · exact j2 u
              · rw [relax_far (fun e => hpne e)]
                exact j3)
            have hrow : Hid (rowF L5 (dR (relax d ((i : Int), (i2 : Int), p3))) = (rowF L5 (dR d)).set i2 (if y < z + 1 then z + 1 else y)) := hide (by
              rw [rowF_set]
              refine rowF_congr fun j _ => ?_
              unfold dR relax
              by_cases hji : j = i2
              · subst hji
                rw [if_pos rfl, if_pos rfl, hy, hz]
              · rw [if_neg hji, if_neg (show ¬ (j : Int) = (i2 : Int) by omega)])
            obtain ⟨w9, hw9⟩ : ∃ x, x = wr.alloc (.cells #[.int .i64 i, .int .i64 i2, .int .i64 p3] 50) := ⟨_, rfl⟩
            have hE9 : Ext wr w9 := by rw [hw9]; exact (Below.refl _ _).alloc (Nat.le_refl _) _
            have X14 : BoxN w9 wr.heap.size 50 #[.int .i64 i, .int .i64 i2, .int .i64 p3] := by rw [hw9]; exact BoxN.new _ _ _
            have hown9 := hown8.out.ext hE9
            obtain ⟨g9, hg9, hs9, hc9⟩ := hown9.at1 hin2
            injection hg9 with hg9
            injection hg9 with hg9
            subst hg9
            obtain ⟨g8, hg8, -, hc8⟩ := hown9.at1 hin
            injection hg8 with hg8
            injection hg8 with hg8
            subst hg8
            rw [show gi (rowF L5 (dR d)) i2 = y by rw [hy]; exact gi_some (rowF_get hin2)] at hc9
            rw [show gi (rowF L5 (dR d)) i = z by rw [hz]; exact gi_some (rowF_get hin)] at hc8
            obtain ⟨g, u, hg0, hgb, -, hg3, hg4, hS, cur, hcur⟩ := hown9.setInt hin2 (if y < z + 1 then z + 1 else y)
            injection hg0 with hg1
            injection hg1 with hg2
            subst hg2
            rw [← hrow.out] at hS
            have k141 := X14.cell 1 (v := .int .i64 i2) rfl
            have k140 := X14.cell 0 (v := .int .i64 i) rfl
            have s14 := X14.lt
            have hi0 : (0 : Int) ≤ (i2 : Int) := by omega
            have hin2' : (i2 : Int) < (L5 : Int) := by omega
            have hi1 : (0 : Int) ≤ (i : Int) := by omega
            have hin' : (i : Int) < (L5 : Int) := by omega
            have hEs : Hid (Ext w2 (w9.setCell ⟨cR, i2, none⟩ (.int .i64 (if y < z + 1 then z + 1 else y)))) := hide ((hE8.trans (hE9.mono hE8.size)).setCell (p := ⟨cR, i2, none⟩) hgb _)
            replace hS := hide hS
            replace hy := hide hy
            replace hz := hide hz
            replace hts := hide hts
            replace hx2 := hide hx2
            replace hnp := hide hnp
            replace hqf := hide hqf
            clear hDJ j1 j2 j3 hown8 hown9 hE8 hE9 X14 hg3 hcur
            rw [hw9] at hc9 hc8 hs9 hg4 k141 k140 s14
            go_upto_region 12 with fail
            rw [← hw9] at hc9 hc8 hs9 hg4 k141 k140 s14 ⊢
            refine wp_only ?_
            refine wp_region_mixL (fun W => W = w9.drew) [15] [] [(0, true), (1, true), (2, true), (3, true), (4, true), (5, true), (6, true), (7, true), (8, true), (9, true), (10, true), (11, true), (12, true), (13, true), (14, true), (15, false)] (by kernel_rfl) (by kernel_rfl) (by kernel_rfl) (by kernel_rfl) (by kernel_rfl) (by kernel_rfl) (fun _ _ d _ _ h => by cases h.1) rfl ?_
            clear hw9
            iterate 15
              apply mixL_q rfl rfl rfl
              · intro W hW
                subst hW
                go_simp
                try exact rfl
              simp only [Act.put, List.setIfInBounds_toArray, List.set_cons_zero, List.set_cons_succ]
            iterate 1
              refine mixL_w rfl rfl (fun K hK => ?_)
              go_simp
              refine hK _ _ (fun h => absurd (by decide) h) ?_
              clear hK K
              try simp only [Act.put, List.setIfInBounds_toArray, List.set_cons_zero, List.set_cons_succ]
            refine mixL_nil ⟨rfl, ?_⟩
            go_wp2
            refine ⟨?_, ?_⟩
            · exact ⟨k2 + 1, _, by omega, by first | omega | go_num, hDK, hide hS.out.drew, hEs.out.drew⟩
            · simp [intOf]; omega
          · have hlt2' : ¬ (k2 : Int) < (m6 : Int) := by omega
            have hke : es.take k2 = es := List.take_of_length_le (by rw [hlen6.out]; omega)
            have hDI : Hid (DInv xs ((ordN L5 xs).take (k + 1)) [] d ∧ ∀ u, d u ≤ ((k + 1 : Nat) : Int)) := hide (by
              obtain ⟨j1, j2, j3⟩ := hDJ.out
              rw [hke, hes.out] at j1
              rw [htk.out]
              exact ⟨dinv_next j1 (fun e => by rw [List.mem_filter]; simp), fun u => by have := j2 u; omega⟩)
            clear hDJ hke
            go_wp2
            refine ⟨?_, ?_⟩
            · first
                | exact ⟨k + 1, d, by omega, by first | omega | go_num, hDI, hown8, hE8⟩
                | ((repeat apply Exists.intro); exact ⟨⟨k + 1, d, by omega, by first | omega | go_num, hDI, hown8, hE8⟩, rfl⟩)
            · first | (simp [intOf, lenV]; omega) | (simp [intOf]; omega) | (simp [intOf]; done)
      · have hlt' : ¬ (k : Int) < (L5 : Int) := by omega
        have hkn : k = L5 := by omega
        have hfin : Hid (y1 = rowF L5 (dR d)) := hide (by
          rw [hy1'.out]
          have h1 := hDI.out.1
          rw [hkn, List.take_of_length_le (by rw [hln.out]; exact Nat.le_refl _)] at h1
          have hall : ∀ v : Int, 0 ≤ v ∧ v < L5 → v ∈ ordN L5 xs := fun v hv => nodup_full ord_nodup.1 ord_nodup.2 (by rw [hln.out]; exact Nat.le_refl _) hv
          have hD : DeepOf L5 xs d := dinv_deep h1 (fun e he => hall _ (hfr.out e he).1)
          refine rowF_congr fun j hj => ?_
          have hlt3 := deep_lt hD L5 (j : Int) (hall _ (by omega))
          rw [show itN L5 xs L5 = ordN L5 xs from rfl, hln.out] at hlt3
          exact rounds_reach hD (fun u => (h1.1 u).1) (fun e he => ⟨(hfr.out e he).1, (hfr.out e he).2.1⟩) L5 (j : Int) (by omega) (by omega) (by omega))
        clear hDI hkn
        have hBe := hide (hB2.trans (hE3.mono hB2.size))
        replace hown1 := hide (hown1.out.base_le hB2.size)
        go_wp2
        go_ret3
        exact ⟨_, by rw [hy3.out, chkG_yes hr.out]; rfl, by rw [hfin.out]; exact hown1.out, hBe.out⟩
end Go.Proofs.Ytepgpiolhiidiaa
