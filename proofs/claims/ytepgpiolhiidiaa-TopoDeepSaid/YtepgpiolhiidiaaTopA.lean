/- topo.heap: a number put in. -/
import Derived.Test.YtepgpiolhiidiaaGraT
import Derived.Test.YtepgpiolhiidiaaTopP
import Derived.Test.YtepgpiolhiidiaaMixL
import Derived.WalkMore
namespace Go.Proofs.Ytepgpiolhiidiaa
open Go.RowKit Go.Shelf
attribute [local go_sem] Oper.semAt_some

/-! ### Memory of the call's own that changes -/
/-- from A to B only the blocks of O changed -/
def Stir (O : List Nat) (A B : World) : Prop := B.os = A.os ∧ B.tape = A.tape ∧ B.output = A.output ∧ A.heap.size ≤ B.heap.size ∧ ∀ k, k < A.heap.size → k ∉ O → B.heap[k]? = A.heap[k]?
section
variable {O O' : List Nat} {A B C : World}
theorem Stir.refl (O : List Nat) (A : World) : Stir O A A := ⟨rfl, rfl, rfl, Nat.le_refl _, fun _ _ _ => rfl⟩
theorem Stir.size (h : Stir O A B) : A.heap.size ≤ B.heap.size := h.2.2.2.1
theorem Stir.block (h : Stir O A B) {k : Nat} (hk : k < A.heap.size) (ho : k ∉ O) : B.heap[k]? = A.heap[k]? := h.2.2.2.2 k hk ho
theorem Stir.trans (h : Stir O A B) (k : Stir O' B C) (ho : ∀ j ∈ O', j ∈ O ∨ A.heap.size ≤ j) : Stir O A C :=
  ⟨k.1.trans h.1, k.2.1.trans h.2.1, k.2.2.1.trans h.2.2.1, Nat.le_trans h.size k.size, fun j hj hn => (k.block (Nat.lt_of_lt_of_le hj h.size) (fun hc => (ho j hc).elim hn (fun hge => by omega))).trans (h.block hj hn)⟩
theorem Stir.trans1 (h : Stir O A B) (k : Stir O B C) : Stir O A C := h.trans k fun _ hj => .inl hj
theorem Stir.mono (h : Stir O A B) (ho : ∀ j ∈ O, j ∈ O' ∨ A.heap.size ≤ j) : Stir O' A B := (Stir.refl O' A).trans h ho
theorem Ext.stir (h : Ext A B) (O : List Nat) : Stir O A B := ⟨h.os, h.tape, h.output, h.size, fun k hk _ => h.block k hk⟩
theorem Stir.setCell {p : Addr} (hp : p.block ∈ O) (A : World) (v : Value) : Stir O A (A.setCell p v) :=
  have h := Below.setCell (Below.refl p.block A) (p := p) (Nat.le_refl _) v
  ⟨h.os, h.tape, h.output, h.size, fun k _ ho => Below.heap_setCell A p v k (fun e => ho (e ▸ hp))⟩
theorem Stir.drew (h : Stir O A B) : Stir O A B.drew := h
theorem Stir.drew1 (O : List Nat) (A : World) : Stir O A A.drew := ⟨rfl, rfl, rfl, Nat.le_refl _, fun _ _ _ => rfl⟩
theorem Stir.alloc (O : List Nat) (A : World) (o : Obj) : Stir O A (A.alloc o) := Ext.stir ((Below.refl _ A).alloc (Nat.le_refl _) o) O
theorem Stir.grown {row : Option Nat} (h : A.grownBy B row) (ho : ∀ k, row = some k → k ∈ O) : Stir O A B :=
  ⟨h.os, h.tape, h.output, h.size, fun k hk hn => h.block k hk (fun e => hn (ho k e.symm))⟩
theorem Stir.below (h : Stir O A B) {n : Nat} (hn : n ≤ A.heap.size) (ho : ∀ k ∈ O, n ≤ k) : Below n A B :=
  ⟨h.1, h.2.1, h.2.2.1, h.size, fun k hk => h.block (by omega) (fun hc => by have := ho k hc; omega)⟩
theorem Box.stir {b : Nat} {t : TypeId} {v : Value} (hb : Box A b t v) (h : Stir O A B) (hn : b ∉ O) : Box B b t v := (h.block hb.lt hn).trans hb
theorem BoxN.stir {b : Nat} {t : TypeId} {vs : Array Value} (hb : BoxN A b t vs) (h : Stir O A B) (hn : b ∉ O) : BoxN B b t vs := (h.block hb.lt hn).trans hb
theorem Stir.grownBy (h : Stir O A B) {v : Value} (hn : ∀ k, v.ownBlock = some k → k ∉ O) : ∀ k, v.ownBlock = some k → k < A.heap.size → B.heap[k]? = A.heap[k]? := fun k hk hl => h.block hl (hn k hk)
end
theorem Own.stir {α : Type} {E : El α} {e : TypeId} {base : Nat} {A B : World} {v : Value} {xs : List α} {O : List Nat} (h : Own E e base A v xs) (hs : Stir O A B) (hn : ∀ k, v.ownBlock = some k → k ∉ O) : Own E e base B v xs := by
  refine ⟨h.1, ?_⟩
  rcases h.2 with h2 | ⟨g, cap, cur, h1, hb, hg, h3⟩
  · exact .inl h2
  · refine .inr ⟨g, cap, cur, h1, hb, ?_, h3⟩
    rw [hs.block (Array.getElem?_eq_some_iff.1 hg).1 (hn g (by rw [h1]; rfl))]
    exact hg
/-- two places of a row of the call's own, turned -/
theorem Own.swp2 {e : TypeId} {base : Nat} {w : World} {A : Option Addr} {n c : Nat} {H : List Int} (h : Own intE e base w (.slice A n c) H) {i j : Nat} (hi : i < n) (hj : j < n) :
    ∃ g, A = some ⟨g, 0, none⟩ ∧ base ≤ g ∧ g < w.heap.size ∧ w.cell? ⟨g, i, none⟩ = some (.int .i64 (gi H i)) ∧ w.cell? ⟨g, j, none⟩ = some (.int .i64 (gi H j)) ∧ w.frozen? ⟨g, i, none⟩ = false ∧ w.frozen? ⟨g, j, none⟩ = false ∧
      (∃ u, (w.setCell ⟨g, i, none⟩ (.int .i64 (gi H j))).cell? ⟨g, j, none⟩ = some u) ∧ (w.setCell ⟨g, i, none⟩ (.int .i64 (gi H j))).frozen? ⟨g, j, none⟩ = false ∧
      Own intE e base ((w.setCell ⟨g, i, none⟩ (.int .i64 (gi H j))).setCell ⟨g, j, none⟩ (.int .i64 (gi H i))) (.slice A n c) (swp H i j) := by
  obtain ⟨A', c', hv, hrd, -, -⟩ := h.rd
  injection hv with e1 e2 e3
  subst e1 e3
  obtain ⟨b0, o0, hA, ra⟩ := hrd.at_ (i := i) (by omega)
  obtain ⟨g, u, hg0, hgb, hgs, hg3, hg4, hS, cur, hcur⟩ := h.setInt hi (gi H j)
  obtain ⟨g', u', hg0', -, -, hg3', hg4', -, -⟩ := h.setInt hj (gi H j)
  rw [hA] at hg0 hg0'
  injection hg0 with hg1
  injection hg1 with hg2 hg5
  injection hg0' with hg1'
  injection hg1' with hg2' hg5'
  subst hg2 hg5 hg2'
  obtain ⟨g2, u2, hg02, -, -, hg32, hg42, hS2, -⟩ := hS.setInt hj (gi H i)
  rw [hA] at hg02
  injection hg02 with hg12
  injection hg12 with hg22
  subst hg22
  refine ⟨b0, hA, hgb, hgs, ?_, ?_, hg4, hg4', ⟨u2, hg32⟩, hg42, hS2⟩
  · have := ra.int (gi_get (L := H) (i := i) (by omega))
    simpa using this
  · have := ra.int (gi_get (L := H) (i := j) (by omega))
    simpa using this
/-- one place read -/
theorem Own.at1 {e : TypeId} {base : Nat} {w : World} {A : Option Addr} {n c : Nat} {H : List Int} (h : Own intE e base w (.slice A n c) H) {i : Nat} (hi : i < n) :
    ∃ g, A = some ⟨g, 0, none⟩ ∧ g < w.heap.size ∧ w.cell? ⟨g, i, none⟩ = some (.int .i64 (gi H i)) := by
  obtain ⟨g, hA, -, hgs, h1, -⟩ := h.swp2 hi hi
  exact ⟨g, hA, hgs, h1⟩
set_option maxRecDepth 100000 in
set_option maxHeartbeats 4000000 in
theorem put_any (hB : Nat) (v : Value) (H : List Int) (n : Int) (base : Nat) (w : World) (hb : Box w hB 84 v) (ho : Own intE 3 base w v H) (hbase : base ≤ w.heap.size) (hl : H.length ≤ 1000000) (hh : Heap H) :
    Calls Try.prog 55 #[.pointer (some ⟨hB, 0, none⟩), .int .i64 n] w fun e w' => (∃ u, e = .returned u) ∧ ∃ v' H', Box w' hB 84 v' ∧ Own intE 3 base w' v' H' ∧ Heap H' ∧ Same H' (H ++ [n]) ∧
      Stir (hB :: v.ownBlock.toList) w w' ∧ (∀ k, v'.ownBlock = some k → v.ownBlock = some k ∨ w.heap.size ≤ k) := by
  go_enter Try.func55, Try.ntmps55
  have hc := hb.cell
  have hs := hb.lt
  have hl' := hide hl
  obtain ⟨A0, c0, rfl, -, -, -⟩ := ho.rd
  have hn := own_new (base := 0) (e := 3) intE w n w.heap.size rfl (Nat.zero_le _)
  obtain ⟨A4, c4, hv1, hr4, -, -⟩ := hn.rd
  injection hv1 with hv2 hv3 hv4
  subst hv2
  clear hn hv3 hv4
  replace hr4 := hide hr4
  have hO1 := hide (ho.alloc (.cells (intE.cs n).toArray 3))
  obtain ⟨v0, hv0⟩ : ∃ q, q = Value.slice A0 H.length c0 := ⟨_, rfl⟩
  have hba := hide (hb.alloc (.cells (intE.cs n).toArray 3))
  go_step3
  go_wp2_with (at_builtin; refine wpList_app tyInt rfl (.tmp 10) (.tmp 12) rfl rfl hO1.out rfl hr4.out rfl (by have := hl'.out; simp; omega) (by simp; omega) ?_)
  intro v' w2 hown hg hne hnil
  have hb2 := hba.out.app hO1.out hg (by decide)
  have hOb : ∀ k, (Value.slice A0 H.length c0).ownBlock = some k → k ∈ hB :: (Value.slice A0 H.length c0).ownBlock.toList := fun k hk => by rw [hk]; simp
  have hS2 : Stir (hB :: (Value.slice A0 H.length c0).ownBlock.toList) w w2 := (Stir.alloc _ w _).trans1 (Stir.grown hg hOb)
  have hfr : ∀ k, v'.ownBlock = some k → (Value.slice A0 H.length c0).ownBlock = some k ∨ w.heap.size ≤ k := fun k hk => by
    rcases hne with h1 | h1
    · exact .inl (h1 ▸ hk)
    · rw [h1] at hk; injection hk with hk; exact .inr (by omega)
  have hb3 := hb2.set v'
  have ho3 := hown.set hb2 (by decide) v'
  have hS3 : Stir (hB :: (Value.slice A0 H.length c0).ownBlock.toList) w (w2.setCell ⟨hB, 0, none⟩ v') := hS2.trans1 (Stir.setCell (p := ⟨hB, 0, none⟩) (by simp) w2 v')
  obtain ⟨A5, c5, rfl, -, -, -⟩ := hown.rd
  have hl5 : (H ++ [n]).length = H.length + 1 := by simp
  rw [hl5] at hb3 ho3 hS3 hfr ⊢
  have hf2 := hb2.free
  have hc2 := hb2.cell
  have hs2 := hb2.lt
  replace hb3 := hide hb3
  replace ho3 := hide ho3
  replace hS3 := hide hS3
  replace hfr := hide hfr
  replace hOb := hide hOb
  clear hS2 hb2 hg hne hnil hown hba hO1 hr4 hv0 hl5 hb ho hc
  generalize hOO : hB :: (Value.slice A0 H.length c0).ownBlock.toList = O at *
  replace hOO := hide hOO
  have e1 : IntKind.i64.wrap (((H.length + 1 : Nat) : Int) - 1) = (H.length : Int) := by rw [IntWalk.i64_in _ (by omega)]; omega
  go_wp2
  go_step3
  obtain ⟨w3, hw3⟩ : ∃ q, q = w2.setCell ⟨hB, 0, none⟩ (.slice A5 (H.length + 1) c5) := ⟨_, rfl⟩
  rw [← hw3] at hb3 ho3 hS3 ⊢
  clear hw3 hc2 hs2 hf2
  have hc3 := hb3.out.cell
  have hs3 := hb3.out.lt
  go_wp2
  clear hc3 hs3
  obtain ⟨N, hN⟩ : ∃ q, q = H.length + 1 := ⟨_, rfl⟩
  rw [← hN] at ho3 hb3 hfr ⊢
  replace hN := hide hN
  go_loopw [4, 5] (fun i j wr => ∃ (k : Nat) (G : List Int), i = .int .i64 k ∧ k < N ∧ Hid (G.length = N ∧ HeapU k G ∧ Same G (H ++ [n])) ∧ Hid (Own intE 3 base wr (.slice A5 (N) c5) G) ∧ Hid (Box wr hB 84 (.slice A5 (N) c5)) ∧ Hid (Stir O w wr)) (fun i _ _ => (intOf i).toNat)
  case atStart => exact ⟨H.length, H ++ [n], rfl, by have := hN.out; omega, hide ⟨by rw [hN.out]; simp, heap_put hh, Same.refl _⟩, ho3, hb3, hS3⟩
  case round =>
    clear ho3 hb3 hS3
    obtain ⟨k, G, rfl, hk, hG, ho3, hb3, hS3⟩ := hrel
    have hc3 := hb3.out.cell
    have hs3 := hb3.out.lt
    by_cases h0 : 0 < k
    · have h0' : (0 : Int) < (k : Int) := by omega
      obtain ⟨q, hq⟩ : ∃ q, q = (k - 1) / 2 := ⟨_, rfl⟩
      have hqk : q < k := by omega
      have u0 : IntKind.i64.wrap ((k : Int) - 1) = (k : Int) - 1 := IntWalk.i64_in _ (by have := hN.out; omega)
      have u1 : Int.tdiv ((k : Int) - 1) 2 = (q : Int) := by rw [hq, Int.tdiv_eq_ediv_of_nonneg (by omega)]; omega
      have u2 : IntKind.i64.wrap (q : Int) = (q : Int) := IntWalk.i64_in _ (by have := hN.out; omega)
      have hq1 : q < N := by omega
      have hkL : (k : Int) < (N : Int) := by omega
      have hqL : (q : Int) < (N : Int) := by omega
      have hq0 : (0 : Int) ≤ (q : Int) := by omega
      replace hq := hide hq
      obtain ⟨g, rfl, hgb, hgs, c1, c2, f1, f2, ⟨u, c3⟩, f3, hS⟩ := ho3.out.swp2 (i := q) (j := k) hq1 hk
      obtain ⟨x, hx⟩ : ∃ x, x = gi G q := ⟨_, rfl⟩
      obtain ⟨y, hy⟩ : ∃ y, y = gi G k := ⟨_, rfl⟩
      rw [← hx] at c1 hS
      rw [← hy] at c2 c3 f3 hS
      replace hx := hide hx
      replace hy := hide hy
      replace hS := hide hS
      go_upto_region 4 with fail
      refine wp_region_reads [(0, true), (1, true), (2, true), (3, true), (4, true), (5, true), (6, true), (7, true), (8, true), (9, true), (10, true), (11, true), (12, true), (13, true), (14, true)] (by kernel_rfl) (by kernel_rfl) (by kernel_rfl) (by kernel_rfl) (fun _ _ d _ _ h => by cases d <;> exact h) ?_
      iterate 15
        apply mix_q rfl rfl
        · intro W hW
          subst hW
          go_simp
          try exact rfl
        simp only [Act.put, List.setIfInBounds_toArray, List.set_cons_zero, List.set_cons_succ]
      refine mix_nil ?_
      by_cases hxy : x ≤ y
      · go_wp2
        rw [Exit.noGoto_normal]
        go_end0
        obtain ⟨g1, g2, g3⟩ := hG.out
        exact ⟨⟨_, rfl⟩, _, G, hb3.out, ho3.out, heapU_end g2 (.inr (by rw [← hq.out, ← hx.out, ← hy.out]; exact hxy)), g3, by rw [hOO.out]; exact hS3.out, hfr.out⟩
      · obtain ⟨wl, hwl⟩ : ∃ z, z = wr.drew := ⟨_, rfl⟩
        rw [← hwl]
        have hc3' : wl.cell? ⟨hB, 0, none⟩ = some (.slice (some ⟨g, 0, none⟩) N c5) := by rw [hwl]; exact hc3
        have c1' : wl.cell? ⟨g, q, none⟩ = some (.int .i64 x) := by rw [hwl]; exact c1
        have c2' : wl.cell? ⟨g, k, none⟩ = some (.int .i64 y) := by rw [hwl]; exact c2
        have f1' : wl.frozen? ⟨g, q, none⟩ = false := by rw [hwl]; exact f1
        have f2' : wl.frozen? ⟨g, k, none⟩ = false := by rw [hwl]; exact f2
        have c3' : (wl.setCell ⟨g, q, none⟩ (.int .i64 y)).cell? ⟨g, k, none⟩ = some u := by rw [hwl]; exact c3
        have f3' : (wl.setCell ⟨g, q, none⟩ (.int .i64 y)).frozen? ⟨g, k, none⟩ = false := by rw [hwl]; exact f3
        have hgs' : g < wl.heap.size := by rw [hwl]; exact hgs
        have hs3' : hB < wl.heap.size := by rw [hwl]; exact hs3
        have hSw : Hid (Own intE 3 base ((wl.setCell ⟨g, q, none⟩ (.int .i64 y)).setCell ⟨g, k, none⟩ (.int .i64 x)) (.slice (some ⟨g, 0, none⟩) N c5) (swp G q k)) := hide (by rw [hwl]; exact hS.out)
        have hne : hB ≠ g := fun e => (ho3.out.ne_box hb3.out (by decide)) (by rw [e]; rfl)
        have hbw : Hid (Box ((wl.setCell ⟨g, q, none⟩ (.int .i64 y)).setCell ⟨g, k, none⟩ (.int .i64 x)) hB 84 (.slice (some ⟨g, 0, none⟩) N c5)) := hide (by rw [hwl]; exact (hb3.out.drew.far (p := ⟨g, q, none⟩) hne _).far (p := ⟨g, k, none⟩) hne _)
        have hSt : Hid (Stir O w ((wl.setCell ⟨g, q, none⟩ (.int .i64 y)).setCell ⟨g, k, none⟩ (.int .i64 x))) := hide (by
          rw [hwl]
          rcases hfr.out g rfl with h1 | h1
          · have hgO := hOb.out g h1
            exact (hS3.out.drew.trans1 (Stir.setCell (p := ⟨g, q, none⟩) hgO _ _)).trans1 (Stir.setCell (p := ⟨g, k, none⟩) hgO _ _)
          · have hj : ∀ j ∈ [g], j ∈ O ∨ w.heap.size ≤ j := fun j hj => .inr (by have : j = g := by simpa using hj
                                                                                 omega)
            exact (hS3.out.drew.trans (Stir.setCell (p := ⟨g, q, none⟩) (O := [g]) (by simp) _ _) hj).trans (Stir.setCell (p := ⟨g, k, none⟩) (O := [g]) (by simp) _ _) hj)
        have hG2 : Hid ((swp G q k).length = N ∧ HeapU q (swp G q k) ∧ Same (swp G q k) (H ++ [n])) := hide (by
          obtain ⟨g1, g2, g3⟩ := hG.out
          refine ⟨by rw [swp_len, g1], ?_, (swp_same (by omega) (by omega)).trans g3⟩
          rw [hq.out]
          exact heapU_step g2 h0 (by omega) (by rw [← hq.out, ← hx.out, ← hy.out]; omega))
        clear hwl hne hS hG ho3 hb3 hS3
        clear hc3 c1 c2 f1 f2 c3 f3 hgs hs3
        go_upto_region 5 with fail
        refine wp_only ?_
        refine wp_region_mixL (fun W => W = wl.drew) [25, 26, 27] [9] [(0, true), (1, true), (2, true), (3, true), (4, true), (5, true), (6, true), (7, true), (8, true), (9, true), (10, true), (11, true), (12, true), (13, true), (14, true), (15, true), (16, true), (17, true), (18, true), (19, true), (20, true), (21, true), (22, true), (23, true), (24, true), (25, false), (26, false), (27, false)] (by kernel_rfl) (by kernel_rfl) (by kernel_rfl) (by kernel_rfl) (by kernel_rfl) (by kernel_rfl) (fun _ _ d _ _ h => by cases h.1) rfl ?_
        iterate 9
          apply mixL_q rfl rfl rfl
          · intro W hW
            subst hW
            go_simp
            try exact rfl
          simp only [Act.put, List.setIfInBounds_toArray, List.set_cons_zero, List.set_cons_succ]
        iterate 1
          apply mixL_f rfl rfl
          · intro W
            go_simp
            try exact rfl
          simp only [Act.put, List.setIfInBounds_toArray, List.set_cons_zero, List.set_cons_succ]
        iterate 15
          apply mixL_q rfl rfl rfl
          · intro W hW
            subst hW
            go_simp
            try exact rfl
          simp only [Act.put, List.setIfInBounds_toArray, List.set_cons_zero, List.set_cons_succ]
        iterate 3
          refine mixL_w rfl rfl (fun K hK => ?_)
          go_simp
          refine hK _ _ (fun h => absurd (by decide) h) ?_
          clear hK K
          try simp only [Act.put, List.setIfInBounds_toArray, List.set_cons_zero, List.set_cons_succ]
        refine mixL_nil ⟨rfl, ?_⟩
        go_wp2
        refine ⟨?_, ?_⟩
        · first
            | exact ⟨q, _, rfl, by omega, hG2, hSw, hbw, hSt⟩
            | ((repeat apply Exists.intro); exact ⟨⟨q, _, rfl, by omega, hG2, hSw, hbw, hSt⟩, rfl⟩)
        · first | (simp [intOf, lenV]; omega) | (simp [intOf]; omega) | (simp [intOf]; done)
    · obtain rfl : k = 0 := by omega
      go_wp2
      rw [Exit.noGoto_normal]
      go_end0
      obtain ⟨g1, g2, g3⟩ := hG.out
      exact ⟨⟨_, rfl⟩, _, G, hb3.out, ho3.out, heapU_end g2 (.inl rfl), g3, by rw [hOO.out]; exact hS3.out, hfr.out⟩
end Go.Proofs.Ytepgpiolhiidiaa
