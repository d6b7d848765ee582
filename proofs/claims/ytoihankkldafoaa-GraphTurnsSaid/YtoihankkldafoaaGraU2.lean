/- slices.AppendSeq, Collect, graph.Filter with GraphTurns' function. -/
import Derived.Test.YtoihankkldafoaaGraU
namespace Go.Proofs.Ytoihankkldafoaa
open Go.RowKit Go.Shelf
attribute [local go_sem] Oper.semAt_some

theorem grown_row {w A B : World} {r row : Option Nat} (h : w.grownBy A r) (hg : A.grownBy B row) (hr : ∀ k, row = some k → w.heap.size ≤ k) : w.grownBy B r :=
  ⟨hg.os.trans h.os, hg.tape.trans h.tape, hg.output.trans h.output, Nat.le_trans h.size hg.size, fun k hk hne => (hg.block k (Nat.lt_of_lt_of_le hk h.size) (fun e => by have := hr k e.symm; omega)).trans (h.block k hk hne)⟩
theorem row_sym {v u : Value} (h : v.ownBlock = none ∨ v.ownBlock ≠ u.ownBlock) : u.ownBlock = none ∨ u.ownBlock ≠ v.ownBlock := by
  rcases h with h | h
  · cases hu : u.ownBlock with
    | none => exact .inl rfl
    | some k => exact .inr (by rw [h]; exact fun e => by cases e)
  · exact .inr (Ne.symm h)
theorem own_IT {w : World} {sB aB fB kB B : Nat} {kind : Int} {xs : List (Int × Int × Int)} (hB : w.heap.size ≤ B) : OwnFrom B (IT w sB aB fB kB kind xs) := by
  rintro s A C row ⟨v, u, h1, h2, h3, h4, h5, h6, h7, h8⟩ hg hr
  have hr2 : ∀ r, row = some r → ∃ o : Obj, A.heap[r]? = some o ∧ o.isCells = false := fun r e => (hr r e).2
  exact ⟨v, u, h1.grown hg (noncell_ne h1 hr2), h2.noncell hg hr2, h3.grown hg (noncell_ne h3 hr2), h4.noncell hg hr2, h5.grown hg (noncell_ne h5 hr2), h6.grown hg (noncell_ne h6 hr2), h7, grown_row h8 hg (fun k e => Nat.le_trans hB (hr k e).1)⟩
set_option maxRecDepth 100000 in
set_option maxHeartbeats 4000000 in
theorem appendSeqT_any (gB fB aB kB : Nat) (A : Option Addr) (m c : Nat) (xs : List (Int × Int × Int)) (hm : m = xs.length) (hl : m ≤ 1000000) (kind : Int) (w : World)
    (hg : w.cell? ⟨gB, 1, none⟩ = some (.slice A m c)) (hF : BoxN w fB 54 #[.func (.func 31) #[] (clT aB kB)]) (hr : Rd edgeE aB w A xs) (ha : Box w aB 22 (.slice none 0 0)) (hk : Box w kB 3 (.int .i64 kind)) :
    Calls Try.prog 66 #[.slice none 0 0, .func (.func 61) #[] #[.pointer (some ⟨gB, 0, none⟩), .pointer (some ⟨fB, 0, none⟩)]] w fun e w' => ∃ v u, e = .returned v ∧ Own edgeE 35 w.heap.size w' v (xs.filter (leK kind)) ∧ Box w' aB 22 u ∧ Own edgeE 35 w.heap.size w' u xs ∧ w.grownBy w' (some aB) := by
  refine (callsIn_wide (n := 10)).1 ?_
  have hgl := cell_lt hg
  have hfc := hF.cell 0 (v := .func (.func 31) #[] (clT aB kB)) rfl
  have hfl := cell_lt hfc
  have hal := ha.lt
  refine callsIn_of_wp_marks Try.func66 rfl trivial ?_ rfl
  simp only [Try.ntmps66, List.size_toArray, List.length_cons, List.length_nil, Nat.reduceAdd, Nat.reduceSub, Array.replicate_succ, Array.replicate_zero, List.push_toArray, List.append_toArray, List.nil_append, List.cons_append]
  gi_wp2
  obtain ⟨w1, hw1⟩ : ∃ x, x = w.alloc (.cells #[.slice none 0 0] 22) := ⟨_, rfl⟩
  have hE1 : Ext w w1 := by rw [hw1]; exact (Below.refl _ w).alloc (Nat.le_refl _) _
  have B1 : Box w1 w.heap.size 22 (.slice none 0 0) := by rw [hw1]; exact Box.new _ _ _
  rw [← hw1]
  clear hw1
  obtain ⟨sB, hsB⟩ : ∃ x, x = w.heap.size := ⟨_, rfl⟩
  rw [← hsB] at B1 ⊢
  have hle : w.heap.size ≤ sB := by omega
  have hsa : sB ≠ aB := by omega
  clear hsB
  have hs1 : w.heap.size ≤ w1.heap.size := hE1.size
  have hfl1 : fB < w1.heap.size := by omega
  have hab : aB ≤ w.heap.size := by omega
  have hab1 : aB ≤ w1.heap.size := by omega
  refine rangeS rfl (by decide) (gf := 61) (lb := #[.pointer (some ⟨gB, 0, none⟩), .pointer (some ⟨fB, 0, none⟩)]) rfl trivial (enters_of Try.func61 (by kernel_rfl) rfl)
    (edges_seq 9 gB fB aB A m c xs hm hl 31 (clT aB kB) (leK kind) enter_turn w hab hg hfc hr) (fun h k => h.trans k) (fun W l o o' h1 _ _ _ => KpE.turn hab1 hfl1 W l o' h1) (fun h k => h.trans k) (fun h k => h.trans k) (fun s x _ _ _ hs _ _ => hs) hE1 (fun _ => rfl)
    (IT w sB aB fB kB kind xs)
    (fun _ _ _ => False)
    (own_IT hs1)
    (fun _ _ _ _ _ hs _ _ => hs)
    ⟨_, _, B1, Own.nil_, ha.ext hE1, Own.nil_, hF.ext hE1, hk.ext hE1, .inl rfl, grown_ext (World.grownBy.refl w _) hE1⟩
    (fun R hR => holdT (by omega) hab hsa hR)
    (fun (x : Int × Int × Int) b W => ∃ p5, BoxN W p5 35 #[.int .i64 x.1, .int .i64 x.2.1, .int .i64 x.2.2] ∧
      b = { tmps := #[.slice none 0 0, .func (.func 61) #[] #[.pointer (some ⟨gB, 0, none⟩), .pointer (some ⟨fB, 0, none⟩)], .pointer (some ⟨sB, 0, none⟩), undef, .slice none 0 0, .pointer (some ⟨p5, 0, none⟩), .func (.func 61) #[] #[.pointer (some ⟨gB, 0, none⟩), .pointer (some ⟨fB, 0, none⟩)], .agg #[.int .i64 x.1, .int .i64 x.2.1, .int .i64 x.2.2], undef, undef, undef, undef, undef], defers := [] })
    (fun x b A B row h hg hr => by obtain ⟨p5, h1, h2⟩ := h; exact ⟨p5, h1.grown hg (noncell_ne h1 (fun r e => (hr r e).2)), h2⟩)
    (fun A B hA hg => KpE.ext (grown_none hg) (by omega)) ?assign ?body ?done ?stop
  case assign =>
    intro l x W K hK
    dsimp only [encE]
    gi_wp2
    exact hK _ _ (World.grownBy_alloc W _ none) ⟨W.heap.size, BoxN.new _ _ _, rfl⟩
  case body =>
    rintro l ⟨k, pre⟩ ⟨p1, p2, p3⟩ W b ⟨v, u, hv, hrow, h3, h4, h5, h6, h7, h8⟩ hX ⟨p5, X5, rfl⟩
    have hlen : pre.length + 1 ≤ 1000000 := by
      have h1 := hX.length_le
      have h2 := List.length_filter_le (leK kind) xs
      simp only [List.length_append, List.length_singleton] at h1
      omega
    simp only at hrow h4 X5 ⊢
    have hBs0 := h8.size
    have hlt4 := hide h4.lt
    have hc := hv.cell
    have sc := hv.lt
    have k50 := X5.cell 0 (v := .int .i64 p1) rfl
    have k51 := X5.cell 1 (v := .int .i64 p2) rfl
    have k52 := X5.cell 2 (v := .int .i64 p3) rfl
    have s5 := X5.lt
    obtain ⟨A5, c5, rfl, -, -, -⟩ := hrow.rd
    have hrn := rd_newAt (e := 35) edgeE W (p1, p2, p3) W.heap.size rfl
    have Oa := hide (hrow.alloc (.cells (edgeE.cs (p1, p2, p3)).toArray 35))
    have hEa : Ext W (W.alloc (.cells (edgeE.cs (p1, p2, p3)).toArray 35)) := (Below.refl _ W).alloc (Nat.le_refl _) _
    have hva := hide (hv.ext hEa)
    have h3a := hide (h3.ext hEa)
    have h4a := hide (h4.ext hEa)
    have h5a := hide (h5.ext hEa)
    have h6a := hide (h6.ext hEa)
    have h8a := hide (grown_ext h8 hEa)
    have h7s := hide (row_sym h7)
    have hFW := hide h5
    replace hrn := hide hrn
    have hsz1 : Hid (aB ≤ W.heap.size) := hide (by omega)
    have d1 : aB ≠ sB := Ne.symm hsa
    have d2 : fB ≠ sB := boxN_ne h5 hv (by decide)
    have d3 : kB ≠ sB := h6.ne hv (by decide)
    replace d1 := hide d1
    replace d2 := hide d2
    replace d3 := hide d3
    have hbs : w.heap.size ≤ W.heap.size := hBs0
    clear hrow hv h3 h4 h5 h6 h7 h8 hEa
    gi_wp2_with (gi_at_builtin; refine wpListIn_app2 tyEdge rfl (.tmp 8) (.tmp 10) rfl rfl Oa.out rfl hrn.out (by omega) (by simp; omega) ?_)
    intro v' w9 hown hgr hf
    have hvb := hva.out.app Oa.out hgr (by decide)
    have h3b := h3a.out.app Oa.out hgr (by decide)
    have h5b := h5a.out.app Oa.out hgr (by decide)
    have h6b := h6a.out.app Oa.out hgr (by decide)
    have h4b := h4a.out.kept hgr h7s.out
    have h8b := grown_own h8a.out Oa.out (Nat.le_refl _) hgr
    have hWb : Below aB W w9 := Own.below (Oa.out.base_le hab) ((Below.refl _ W).alloc hsz1.out _) hgr (by have := hsz1.out; simp; omega)
    have hk9 : KeepsFrom w1.heap.size W w9 := ((KeepsOthers.alloc W _).from _).trans ((KeepsOthers.of_grownBy hgr (fun j o hj ho => by obtain ⟨cc, hcc⟩ := Oa.out.block j hj; have h9 := hcc.symm.trans ho; injection h9 with h9; subst h9; rfl)).from _)
    have h7b : v'.ownBlock = none ∨ v'.ownBlock ≠ u.ownBlock := by
      rcases hf with hf | hf
      · rw [hf]; exact row_sym h7s.out
      · refine .inr fun e => ?_
        rw [hf] at e
        have := (hlt4.out _ e.symm).2
        first | omega | (simp at this; done) | (simp at this; omega)
    have cb9 := hvb.cell
    have sb := hvb.lt
    have fb := hvb.free
    have hvc := hide (hvb.set v')
    have hown2 := hide (hown.set hvb (by decide) v')
    have h3c := hide (h3b.far (p := ⟨sB, 0, none⟩) d1.out v')
    have h5c := hide (h5b.far (p := ⟨sB, 0, none⟩) d2.out v')
    have h6c := hide (h6b.far (p := ⟨sB, 0, none⟩) d3.out v')
    have h4c := hide (h4b.set hvb (by decide) v')
    have h8c := hide (grown_far (u := v') h8b hle)
    have hWs := hide (hWb.setCell (p := ⟨sB, 0, none⟩) (by show aB ≤ sB; omega) v')
    have hFk : Hid (∀ o, W.heap[fB]? = some o → (w9.setCell ⟨sB, 0, none⟩ v').heap[fB]? = some o) := hide (fun o ho => by
      have h9 : W.heap[fB]? = _ := hFW.out
      rw [h9] at ho
      injection ho with ho
      subst ho
      exact h5c.out)
    replace h7b := hide h7b
    obtain ⟨A6, c6, rfl, -, -, -⟩ := hown.rd
    obtain ⟨l6, hl6⟩ : ∃ l, l = (pre ++ [(p1, p2, p3)]).length := ⟨_, rfl⟩
    rw [← hl6] at hvc hown2 h3c h5c h6c h4c h8c hWs hFk h7b ⊢
    replace hl6 := hide hl6
    clear hown hvb hgr hf Oa hva h3a h4a h5a h6a h8a h3b h4b h5b h6b h8b hWb hc sc k50 k51 k52 s5 hrn hlt4
    gi_wp2
    exact ⟨hk9.trans ((KeepsOthers.setCell _ _ _).from _), ⟨hWs.out, hFk.out⟩, _, _, hvc.out, hown2.out, h3c.out, h4c.out, h5c.out, h6c.out, h7b.out, h8c.out⟩
  case done =>
    rintro D s W hD rfl ⟨v, u, hv, hrow, h3, h4, -, -, -, h8⟩ hK
    have hc := hv.cell
    have sc := hv.lt
    obtain ⟨A5, c5, rfl, -, -, -⟩ := hrow.rd
    have h4' : Hid (Own edgeE 35 w.heap.size W u xs) := hide (by have := h4; simpa using this)
    replace hrow := hide hrow
    clear h4
    gi_wp2
    refine ⟨by simp, .inl ⟨_, _, rfl, run_takeDeferred hK, ?_⟩⟩
    have hr2 : ∀ r, some D = some r → ∃ o : Obj, W.heap[r]? = some o ∧ o.isCells = false := fun r e => by cases e; exact ⟨_, hK, rfl⟩
    exact ⟨_, results_tmp rfl _ _ _, _, rfl, Own.putObj hrow.out _ hK rfl, u, h3.grown (grownBy_putObj' W D _) (noncell_ne h3 hr2), Own.putObj h4'.out _ hK rfl, grown_row h8 (grownBy_putObj' W D _) (fun k e => by cases e; omega)⟩
  case stop =>
    rintro D c pre W _ _ h _
    exact h.elim
end Go.Proofs.Ytoihankkldafoaa
