/- graph.Kinds. -/
import Derived.Test.YtoihankkldafoaaGraX
namespace Go.Proofs.Ytoihankkldafoaa
open Go.RowKit Go.Shelf
attribute [local go_sem] Oper.semAt_some

def kindP (u v : Int) (x : Int × Int × Int) : Bool := decide (x.1 = u) && decide (x.2.1 = v)
def kindL (n : Int) (xs : List (Int × Int × Int)) (u v : Int) : List Int := if askE n xs [u, v] = 0 then (xs.filter (kindP u v)).map (fun x => x.2.2) else []
set_option maxRecDepth 100000 in
set_option maxHeartbeats 4000000 in
theorem kinds_any (n u v : Int) (A : Option Addr) (m c : Nat) (xs : List (Int × Int × Int)) (w : World) (h : Rd edgeE w.heap.size w A xs) (hm : m = xs.length) (hl : m ≤ 100000) :
    Calls Try.prog 27 #[.agg #[.int .i64 n, .slice A m c], .int .i64 u, .int .i64 v] w fun e w' => ∃ r, e = .returned (.tuple #[r, .int .i64 (askE n xs [u, v])]) ∧ Own intE 3 w.heap.size w' r (kindL n xs u v) ∧ Ext w w' := by
  obtain ⟨q, hq⟩ : ∃ q, q = askE n xs [u, v] := ⟨_, rfl⟩
  obtain ⟨ol, hol⟩ : ∃ q, q = kindL n xs u v := ⟨_, rfl⟩
  rw [← hq, ← hol]
  replace h := hide h
  replace hm := hide hm
  replace hol := hide hol
  replace hq := hide hq
  refine (callsIn_wide (n := 10)).1 ?_
  refine callsIn_of_wp_marks Try.func27 rfl trivial ?_ rfl
  simp only [Try.ntmps27, List.size_toArray, List.length_cons, List.length_nil, Nat.reduceAdd, Nat.reduceSub, Array.replicate_succ, Array.replicate_zero, List.push_toArray, List.append_toArray, List.nil_append, List.cons_append]
  refine wpIn_wide.2 ?_
  go_upto_region 1 with fail
  obtain ⟨w0, hw0⟩ : ∃ w0, w0 = ((w.alloc (.cells #[.int .i64 n, .slice A m c] 24)).alloc (.cells #[.int .i64 u] 3)).alloc (.cells #[.int .i64 v] 3) := ⟨_, rfl⟩
  rw [← hw0]
  have hE0 : Ext w w0 := by rw [hw0]; exact (((Below.refl _ _).alloc (Nat.le_refl _) _).alloc (by simp) _).alloc (by simp; omega) _
  have X1 : BoxG w0 w.heap.size n A m c := by rw [hw0]; exact ((BoxN.new w _ _).alloc _).alloc _
  have X4 : BoxN w0 (w.heap.size + 1) 3 #[.int .i64 u] := by
    rw [hw0]
    have := BoxN.new (w.alloc (.cells #[.int .i64 n, .slice A m c] 24)) 3 #[.int .i64 u]
    rw [World.size_alloc] at this
    exact this.alloc _
  have X5 : BoxN w0 (w.heap.size + 1 + 1) 3 #[.int .i64 v] := by
    rw [hw0]
    have := BoxN.new ((w.alloc (.cells #[.int .i64 n, .slice A m c] 24)).alloc (.cells #[.int .i64 u] 3)) 3 #[.int .i64 v]
    rw [World.size_alloc, World.size_alloc] at this
    exact this
  clear hw0
  obtain ⟨pg, hpg⟩ : ∃ b, b = w.heap.size := ⟨_, rfl⟩
  rw [← hpg] at X1 X4 X5 ⊢
  obtain ⟨p4, hp4⟩ : ∃ b, b = pg + 1 := ⟨_, rfl⟩
  rw [← hp4] at X4 X5 ⊢
  obtain ⟨p5, hp5⟩ : ∃ b, b = p4 + 1 := ⟨_, rfl⟩
  rw [← hp5] at X5 ⊢
  clear hpg hp4 hp5
  have k10 := X1.cell 0 (v := .int .i64 n) rfl
  have k11 := X1.cell 1 (v := .slice A m c) rfl
  have s1 := X1.lt
  have k4 := X4.cell 0 (v := .int .i64 u) rfl
  have s4 := X4.lt
  have k5 := X5.cell 0 (v := .int .i64 v) rfl
  have s5 := X5.lt
  have hOO := own_made (base := 0) intE 3 w0 [u, v] w0.heap.size rfl (Nat.zero_le _) (by simp [maxLen])
  have hE1 : Ext w0 (w0.alloc (.cells #[.int .i64 u, .int .i64 v] 3)) := (Below.refl _ _).alloc (Nat.le_refl _) _
  have hA := hide (asked_any n A m c xs (some ⟨w0.heap.size, 0, none⟩) 2 2 [u, v] (w0.alloc (.cells #[.int .i64 u, .int .i64 v] 3)) ((h.out.ext hE0).ext hE1) hm.out (by omega) (rdO hOO) rfl (by decide))
  rw [← hq.out] at hA
  clear hOO
  go_wp2_with fail
  refine hA.out.mono ?_
  rintro e w1 ⟨rfl, hE⟩
  have hB := hE0.trans ((hE1.trans (hE.mono hE1.size)).mono hE0.size)
  replace X1 := (X1.ext hE1).ext hE
  replace X4 := (X4.ext hE1).ext hE
  replace X5 := (X5.ext hE1).ext hE
  clear hA hE1 hE k10 k11 s1 k4 s4 k5 s5 hE0
  obtain ⟨bs, hbs⟩ : ∃ q, q = w0.heap.size := ⟨_, rfl⟩
  rw [← hbs]
  clear hbs
  have k10 := X1.cell 0 (v := .int .i64 n) rfl
  have k11 := X1.cell 1 (v := .slice A m c) rfl
  have s1 := X1.lt
  by_cases hz : q = 0
  · subst hz
    have hv : Hid (ol = (xs.filter (kindP u v)).map fun x => x.2.2) := hide (by rw [hol.out]; unfold kindL; rw [if_pos hq.out.symm])
    go_upto_region 5 with fail
    obtain ⟨w3, hw3⟩ : ∃ q, q = w1.alloc (.cells #[.slice none 0 0] 41) := ⟨_, rfl⟩
    rw [← hw3]
    have hE3 : Ext w1 w3 := by rw [hw3]; exact (Below.refl _ _).alloc (Nat.le_refl _) _
    have Z9 : Box w3 w1.heap.size 41 (.slice none 0 0) := by rw [hw3]; exact Box.new _ _ _
    clear hw3
    obtain ⟨oB, hoB⟩ : ∃ q, q = w1.heap.size := ⟨_, rfl⟩
    rw [← hoB] at Z9 ⊢
    have hole : w1.heap.size ≤ oB := Nat.le_of_eq hoB.symm
    clear hoB
    have Y1 := X1.ext hE3
    clear k10 k11 s1
    have k10 := Y1.cell 0 (v := .int .i64 n) rfl
    have k11 := Y1.cell 1 (v := .slice A m c) rfl
    have s1 := Y1.lt
    go_wp2_with fail
    refine (edges_any n A m c 54 #[.pointer (some ⟨p4, 0, none⟩), .pointer (some ⟨p5, 0, none⟩)] _).mono ?_
    rintro e w4 ⟨rfl, hw4⟩
    obtain ⟨hE4, q1, q2⟩ := edges_new n A m c _ _ _ _ hw4
    have hF4 : BoxN w4 (w3.heap.size + 1) 54 #[.func (.func 54) #[] #[.pointer (some ⟨p4, 0, none⟩), .pointer (some ⟨p5, 0, none⟩)]] := by
      rw [hw4]
      have := BoxN.new (w3.alloc (.cells #[.int .i64 n, .slice A m c] 24)) 54 #[.func (.func 54) #[] #[.pointer (some ⟨p4, 0, none⟩), .pointer (some ⟨p5, 0, none⟩)]]
      rw [World.size_alloc] at this
      exact this
    have so := Z9.lt
    replace Z9 := Z9.ext hE4
    have hE14 := hE3.trans (hE4.mono hE3.size)
    obtain ⟨gE, hgE⟩ : ∃ q, q = w3.heap.size := ⟨_, rfl⟩
    rw [← hgE] at q1 q2 hF4 so ⊢
    obtain ⟨fE, hfE⟩ : ∃ q, q = gE + 1 := ⟨_, rfl⟩
    rw [← hfE] at q2 hF4 ⊢
    have hof : oB < fE := by omega
    clear hw4 hE4 hE3 hgE hfE k10 k11 s1 Y1
    go_wp2_with fail
    refine (wpIn_wide (n := 10)).1 ?_
    have hg14 := hE14.size
    have hR1 := (h.out.ext hB).below hE14
    have u4 := X4.lt
    have u5 := X5.lt
    have c4 := X4.cell 0 (v := .int .i64 u) rfl
    have c5 := X5.cell 0 (v := .int .i64 v) rfl
    have hH : HoldP 54 #[.pointer (some ⟨p4, 0, none⟩), .pointer (some ⟨p5, 0, none⟩)] xs (kindP u v) w1 := ⟨enter_kind, fun a b c W _ hW => kindFun_any u v a b c p4 p5 W (Nat.lt_of_lt_of_le u4 hW.size) (below_cell hW u4 c4) (Nat.lt_of_lt_of_le u5 hW.size) (below_cell hW u5 c5)⟩
    have hfl1 := hF4.lt
    refine rangeS rfl (by decide) (gf := 61) (lb := #[.pointer (some ⟨gE, 0, none⟩), .pointer (some ⟨fE, 0, none⟩)]) rfl trivial (enters_of Try.func61 (by kernel_rfl) rfl)
      (edges_seq 9 gE fE w1.heap.size A m c xs hm.out (by omega) 54 #[.pointer (some ⟨p4, 0, none⟩), .pointer (some ⟨p5, 0, none⟩)] (kindP u v) enter_kind w4 hg14 q1 q2 hR1) (fun h k => h.trans k) (fun W l o o' h1 _ _ _ => KpE.turn hg14 hfl1 W l o' h1) (fun h k => h.trans k) (fun h k => h.trans k) (fun s x _ _ _ hs _ _ => hs) (Below.refl _ _) (fun _ => rfl)
      (fun (s : StE) W => (∃ r, Box W oB 41 r ∧ Own intE 3 w1.heap.size W r (s.2.map fun x => x.2.2) ∧ BoxN W fE 54 #[.func (.func 54) #[] #[.pointer (some ⟨p4, 0, none⟩), .pointer (some ⟨p5, 0, none⟩)]]) ∧ Below w1.heap.size w1 W)
      (fun _ _ _ => False)
      (OwnFrom.and (Own.from (fun sx A B row hs hg hr => by obtain ⟨r, h1, h2, h3⟩ := hs; exact ⟨r, h1.grown hg (noncell_ne h1 hr), h2.noncell hg hr, h3.grown hg (noncell_ne h3 hr)⟩) _) (ownFrom_below (Nat.le_refl _) hg14))
      (fun _ _ _ _ _ hs _ _ => hs)
      ⟨⟨_, Z9, Own.nil_, hF4⟩, hE14⟩
      (fun R hR => holdE_of hH (Nat.le_refl _) (fun s A h => h.2) (fun k k' pre A C h hE => by obtain ⟨⟨r, h1, h2, h3⟩, h4⟩ := h; exact ⟨⟨r, h1.ext hE, h2.ext hE, h3.ext hE⟩, h4.trans (hE.mono h4.size)⟩) hR)
      (fun (x : Int × Int × Int) b W => ∃ p10, BoxN W p10 35 #[.int .i64 x.1, .int .i64 x.2.1, .int .i64 x.2.2] ∧
        b = { tmps := #[.agg #[.int .i64 n, .slice A m c], .int .i64 u, .int .i64 v, .pointer (some ⟨pg, 0, none⟩), .pointer (some ⟨p4, 0, none⟩), .pointer (some ⟨p5, 0, none⟩), .slice none 0 0, .int .i64 0, .int .i64 0, .pointer (some ⟨oB, 0, none⟩), .pointer (some ⟨p10, 0, none⟩), .agg #[.int .i64 n, .slice A m c], .int .i64 u, .int .i64 v, .slice (some ⟨bs, 0, none⟩) 2 2, .int .i64 0, .int .i64 0, .bool false, undef, .agg #[.int .i64 n, .slice A m c], .func (.func 54) #[] #[.pointer (some ⟨p4, 0, none⟩), .pointer (some ⟨p5, 0, none⟩)], .func (.func 61) #[] #[.pointer (some ⟨gE, 0, none⟩), .pointer (some ⟨fE, 0, none⟩)], .agg #[.int .i64 x.1, .int .i64 x.2.1, .int .i64 x.2.2], undef, undef, undef, undef, undef, undef], defers := [] })
      (fun x b A B row h hg hr => by obtain ⟨p10, h1, h2⟩ := h; exact ⟨p10, h1.grown hg (noncell_ne h1 (fun r e => (hr r e).2)), h2⟩)
      (fun A B hA hg => KpE.ext (grown_none hg) (by omega)) ?assign ?body ?done ?stop
    case assign =>
      intro l x W K hK
      dsimp only [encE]
      gi_wp2
      exact hK _ _ (World.grownBy_alloc W _ none) ⟨W.heap.size, BoxN.new _ _ _, rfl⟩
    case body =>
      rintro l ⟨k, pre⟩ ⟨p1, p2, p3⟩ W b ⟨⟨r, hv9, hrow, hF⟩, hBW⟩ hX ⟨p10, X10, rfl⟩
      have hlen : pre.length + 1 ≤ 1000000 := by
        have h1 := hX.length_le
        have h2 := List.length_filter_le (kindP u v) xs
        have h3 := hm.out
        simp only [List.length_append, List.length_singleton] at h1
        omega
      simp only at hrow X10 ⊢
      obtain ⟨zs, hzs⟩ : ∃ z, z = pre.map (fun x : Int × Int × Int => x.2.2) := ⟨_, rfl⟩
      rw [← hzs] at hrow
      have hpl : Hid (zs.length + 1 ≤ 1000000) := hide (by rw [hzs, List.length_map]; exact hlen)
      have hlm : Hid ((pre ++ [(p1, p2, p3)]).map (fun x : Int × Int × Int => x.2.2) = zs ++ [p3]) := hide (by rw [List.map_append, hzs]; rfl)
      clear hzs
      have hc := hv9.cell
      have sc := hv9.lt
      have k102 := X10.cell 2 (v := .int .i64 p3) rfl
      have s10 := X10.lt
      obtain ⟨A5, c5', rfl, -, -, -⟩ := hrow.rd
      have hrn := rd_newAt (e := 3) intE W p3 W.heap.size rfl
      have Oa := hrow.alloc (.cells (intE.cs p3).toArray 3)
      have hva := hv9.alloc (.cells (intE.cs p3).toArray 3)
      have hFa := hF.alloc (.cells (intE.cs p3).toArray 3)
      have hBa := hBW.alloc hBW.size (.cells (intE.cs p3).toArray 3)
      have hKa : KpE w1.heap.size fE W (W.alloc (.cells (intE.cs p3).toArray 3)) := KpE.ext ((Below.refl _ _).alloc (Nat.le_refl _) _) hBW.size
      replace hrn := hide hrn
      replace Oa := hide Oa
      replace hva := hide hva
      replace hFa := hide hFa
      replace hBa := hide hBa
      replace hKa := hide hKa
      gi_wp2_with (gi_at_builtin; refine wpListIn_app1 tyInt rfl (.tmp 23) (.tmp 26) rfl rfl Oa.out rfl hrn.out (by have := hpl.out; omega) (by have := hBW.size; simp; omega) ?_)
      intro v' w9 hown hgr
      have hvb := hva.out.app Oa.out hgr (by decide)
      have hFb := hFa.out.app Oa.out hgr (by decide)
      have hBb : Below w1.heap.size w1 w9 := Own.below Oa.out hBa.out hgr (by have := hBW.size; simp; omega)
      have hWb : Below w1.heap.size W w9 := Own.below Oa.out ((Below.refl _ W).alloc hBW.size _) hgr (by have := hBW.size; simp; omega)
      have fb := hvb.free
      have cb9 := hvb.cell
      have sb := hvb.lt
      have hvc := hvb.set v'
      have hk9 : KeepsFrom w4.heap.size W w9 := ((KeepsOthers.alloc W _).from _).trans ((KeepsOthers.of_grownBy hgr (fun j o hj ho => by obtain ⟨cc, hcc⟩ := Oa.out.block j hj; have h9 := hcc.symm.trans ho; injection h9 with h9; subst h9; rfl)).from _)
      have hown2 := hown.set hvb (by decide) v'
      have d1 : fE ≠ oB := by omega
      have hFc := hFb.far (p := ⟨oB, 0, none⟩) d1 v'
      rw [← hlm.out] at hown2
      have hBs := hBb.setCell (p := ⟨oB, 0, none⟩) hole v'
      have hWs := hWb.setCell (p := ⟨oB, 0, none⟩) hole v'
      have hFk : ∀ o, W.heap[fE]? = some o → (w9.setCell ⟨oB, 0, none⟩ v').heap[fE]? = some o := fun o ho => by
        have e1 : W.heap[fE]? = _ := hF
        rw [e1] at ho
        injection ho with ho
        subst ho
        exact hFc
      obtain ⟨A6, c6, rfl, -, -, -⟩ := hown.rd
      obtain ⟨l6, hl6⟩ : ∃ l, l = (zs ++ [p3]).length := ⟨_, rfl⟩
      rw [← hl6] at hvc hown2 hBs hWs hFc hFk ⊢
      replace hl6 := hide hl6
      replace hown2 := hide hown2
      replace hvc := hide hvc
      replace hBs := hide hBs
      replace hWs := hide hWs
      replace hFc := hide hFc
      replace hFk := hide hFk
      clear hown hvb hgr Oa hva hBa hBb hWb hc sc k102 s10 hrn hrow hv9 hF hFa hFb
      gi_wp2
      exact ⟨hk9.trans ((KeepsOthers.setCell _ _ _).from _), ⟨hWs.out, hFk.out⟩, ⟨_, hvc.out, hown2.out, hFc.out⟩, hBs.out⟩
    case done =>
      rintro D s W hD rfl ⟨⟨r, hv9, hrow, hF⟩, hBW⟩ hK
      have hc := hv9.cell
      have sc := hv9.lt
      simp only [List.nil_append] at hrow
      obtain ⟨zs, hzs⟩ : ∃ z, z = (xs.filter (kindP u v)).map (fun x => x.2.2) := ⟨_, rfl⟩
      have hvz : Hid (ol = zs) := hide (by rw [hzs]; exact hv.out)
      rw [← hzs] at hrow
      clear hzs hv
      obtain ⟨A5, c5', rfl, -, -, -⟩ := hrow.rd
      replace hrow := hide hrow
      go_wp2
      refine ⟨by simp, .inl ⟨_, _, rfl, run_takeDeferred hK, ?_⟩⟩
      refine ⟨_, results_tmp2 rfl _ _ _, ?_⟩
      exact ⟨_, rfl, by rw [hvz.out]; exact (Own.putObj hrow.out _ hK rfl).base_le hB.size, (hB.trans (hBW.mono hB.size)).trans (belowK_b (w := w1) hB.size W D _ _ (by omega) hK rfl rfl)⟩
    case stop =>
      rintro D c pre W _ _ h _
      exact h.elim
  · have hz' : (q != 0) = true := by simp [hz]
    have hv : Hid (ol = []) := hide (by rw [hol.out]; unfold kindL; rw [if_neg (by rw [← hq.out]; exact hz)])
    go_wp2
    refine ⟨_, results_tmp2 rfl _ _ _, ?_⟩
    exact ⟨.slice none 0 0, rfl, by rw [hv.out]; exact Own.nil_, hB⟩
end Go.Proofs.Ytoihankkldafoaa
