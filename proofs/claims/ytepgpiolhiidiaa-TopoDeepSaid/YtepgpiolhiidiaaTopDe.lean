/- slices.Reverse of numbers; TopoDeep, walked. -/
import Derived.Test.YtepgpiolhiidiaaTopX
import Derived.Test.YtepgpiolhiidiaaGraF
import Derived.Test.YtepgpiolhiidiaaGraR
namespace Go.Proofs.Ytepgpiolhiidiaa
open Go.RowKit Go.Shelf
attribute [local go_sem] Oper.semAt_some
theorem turn_turn (x : Int × Int × Int) : turn (turn x) = x := rfl
theorem mem_turn {l : List (Int × Int × Int)} {z : Int × Int × Int} : z ∈ l.map turn ↔ turn z ∈ l := by
  rw [List.mem_map]
  constructor
  · rintro ⟨y, hy, rfl⟩; exact hy
  · intro h; exact ⟨turn z, h, rfl⟩
theorem rightE_turn (n : Int) (x : Int × Int × Int) : rightE n (turn x) = rightE n x := by
  rw [Bool.eq_iff_iff, rightE_iff, rightE_iff]
  unfold turn
  simp only
  omega
theorem rev_right {n : Int} {a : List (Int × Int × Int)} (h : rightG n a = true) : rightG n (ofE (a.map turn)) = true := by
  obtain ⟨h1, h2, h3, h4, h5⟩ := (rightG_iff n a).1 h
  refine (rightG_iff n _).2 ⟨h1, h2, ?_, fun x hx => ?_, ofE_strict _⟩
  · have := ofE_len (a.map turn)
    rw [List.length_map] at this
    omega
  · rw [mem_ofE, mem_turn] at hx
    rw [← rightE_turn]
    exact h4 _ hx

/-- turned round an order is one of the graph that leads back -/
theorem rev_rightO {nn : Nat} {a : List (Int × Int × Int)} {l : List Int} (h : RightO nn a l) : RightO nn (ofE (a.map turn)) l.reverse := by
  obtain ⟨⟨h1, h2, h3⟩, h4⟩ := h
  refine ⟨⟨by rw [List.length_reverse, h1], List.nodup_iff_count.2 (fun v => by rw [List.count_reverse]; exact List.nodup_iff_count.1 h2 v), fun v hv => h3 v (List.mem_reverse.1 hv)⟩, fun e he => ?_⟩
  rw [mem_ofE, mem_turn] at he
  obtain ⟨p, q, r, h5⟩ := h4 _ he
  refine ⟨r.reverse, q.reverse, p.reverse, ?_⟩
  rw [h5]
  simp [turn]
/-- if all are taken, the depths are there -/
theorem deep_ex {nn : Nat} {a : List (Int × Int × Int)} (hj : Joins nn a) (hln : (ordN nn a).length = nn) : ∃ d, DeepOf nn a d ∧ (∀ u, 0 ≤ d u) ∧ ∀ v : Int, 0 ≤ v → v < nn → rounds a nn v = d v := by
  have step : ∀ (k : Nat) (x : Int) (d : Int → Int), k < nn → (ordN nn a)[k]? = some x → DInv a ((ordN nn a).take k) [] d → ∀ (q r : List (Int × Int × Int)), q ++ r = a.filter (fun e => decide (e.1 = x)) → ∀ d, DInv a ((ordN nn a).take k) q d → ∃ d', DInv a ((ordN nn a).take k) (q ++ r) d' := by
    intro k x d hk hx _ q r
    induction r generalizing q with
    | nil => intro _ d hd; exact ⟨d, by simpa using hd⟩
    | cons e r ih =>
      intro hqr d hd
      obtain ⟨hxp, hclo, -⟩ := ord_at hln hk hx
      have he : e ∈ a ∧ e.1 = x := by
        have : e ∈ a.filter (fun e => decide (e.1 = x)) := by rw [← hqr]; simp
        rw [List.mem_filter] at this
        exact ⟨this.1, by simpa using this.2⟩
      have hq : ∀ f ∈ q, f.1 = x := fun f hf => by
        have : f ∈ a.filter (fun e => decide (e.1 = x)) := by rw [← hqr]; simp [hf]
        rw [List.mem_filter] at this
        simpa using this.2
      have hne := (hj e he.1).2
      have h1 := dinv_step hd hq he.1 he.2 (fun hc => hxp (by have := hclo e he.1 hc; rwa [he.2] at this)) (fun hc => hne (he.2.trans hc.symm))
      obtain ⟨d', hd'⟩ := ih (q ++ [e]) (by rw [← hqr]; simp) _ h1
      exact ⟨d', by simpa using hd'⟩
  have all : ∀ k, k ≤ nn → ∃ d, DInv a ((ordN nn a).take k) [] d := by
    intro k
    induction k with
    | zero => intro _; exact ⟨_, dinv_nil⟩
    | succ k ih =>
      intro hk
      obtain ⟨d, hd⟩ := ih (by omega)
      obtain ⟨x, hx⟩ := get_some (xs := ordN nn a) (i := k) (by omega)
      obtain ⟨-, -, htk⟩ := ord_at hln (by omega) hx
      obtain ⟨d', hd'⟩ := step k x d (by omega) hx hd [] _ rfl d hd
      rw [List.nil_append] at hd'
      rw [htk]
      exact ⟨d', dinv_next hd' (fun e => by rw [List.mem_filter]; simp)⟩
  obtain ⟨d, hd⟩ := all nn (Nat.le_refl _)
  rw [List.take_of_length_le (by rw [hln]; exact Nat.le_refl _)] at hd
  have hall : ∀ v : Int, 0 ≤ v ∧ v < nn → v ∈ ordN nn a := fun v hv => nodup_full ord_nodup.1 ord_nodup.2 (by rw [hln]; exact Nat.le_refl _) hv
  have hD : DeepOf nn a d := dinv_deep hd (fun e he => hall _ (hj e he).1.1)
  refine ⟨d, hD, fun u => (hd.1 u).1, fun v h1 h2 => ?_⟩
  have hlt3 := deep_lt hD nn v (hall v ⟨h1, h2⟩)
  rw [show itN nn a nn = ordN nn a from rfl, hln] at hlt3
  exact rounds_reach hD (fun u => (hd.1 u).1) (fun e he => (hj e he).1) nn v h1 h2 (by omega)
theorem rev_of {l G : List Int} {n i : Nat} (hl : n = l.length) (hG : G.length = n) (h : ∀ k, k < n → gi G k = if k < i ∨ n < k + 1 + i then gi l (n - 1 - k) else gi l k) (hi : n ≤ 2 * i + 1) : G = l.reverse := by
  apply List.ext_getElem?
  intro k
  by_cases hk : k < n
  · rw [gi_get (by omega), List.getElem?_reverse (by omega), h k hk, ← hl]
    rw [gi_get (L := l) (show n - 1 - k < l.length by omega)]
    by_cases hc : k < i ∨ n < k + 1 + i
    · rw [if_pos hc]
    · rw [if_neg hc]
      congr 2
      omega
  · rw [List.getElem?_eq_none (by omega), List.getElem?_eq_none (by rw [List.length_reverse]; omega)]
set_option maxRecDepth 100000 in
set_option maxHeartbeats 4000000 in
theorem reverseI_any (base : Nat) (A : Option Addr) (n c : Nat) (l : List Int) (w : World) (hO : Own intE 3 base w (.slice A n c) l) (hn : n = l.length) (hl : n ≤ 1000000) (hb : base ≤ w.heap.size) :
    Calls Try.prog 28 #[.slice A n c] w fun e w' => (∃ x, e = .returned x) ∧ Own intE 3 base w' (.slice A n c) l.reverse ∧ Below base w w' := by
  replace hn := hide hn
  have e0 : IntKind.i64.wrap ((n : Int) - 1) = (n : Int) - 1 := IntWalk.i64_in _ (by omega)
  have h0 : Hid (l.length = n ∧ ∀ k, k < n → gi l k = if k < 0 ∨ n < k + 1 + 0 then gi l (n - 1 - k) else gi l k) := hide ⟨hn.out.symm, fun k hk => by rw [if_neg (by omega)]⟩
  replace hO := hide hO
  go_enter Try.func28, Try.ntmps28
  go_wp2
  go_loopw [2, 3] (fun p q wr => ∃ (i : Nat) (G : List Int), 2 * i ≤ n + 1 ∧ p = .int .i64 i ∧ q = .int .i64 ((n : Int) - 1 - i) ∧ Hid (G.length = n ∧ ∀ k, k < n → gi G k = if k < i ∨ n < k + 1 + i then gi l (n - 1 - k) else gi l k) ∧ Hid (Own intE 3 base wr (.slice A n c) G) ∧ Below base w wr) (fun p _ _ => n - (intOf p).toNat)
  case atStart => exact ⟨0, l, by omega, rfl, by simp, h0, hO, Below.refl _ _⟩
  case round =>
    clear hO h0
    obtain ⟨i, G, hi, rfl, rfl, hG, hO, hB⟩ := hrel
    by_cases hlt : 2 * i + 1 < n
    · obtain ⟨j, hj⟩ : ∃ j : Nat, (n : Int) - 1 - i = (j : Int) := ⟨n - 1 - i, by omega⟩
      have hij : (i : Int) < (j : Int) := by omega
      have hjn : (j : Int) < (n : Int) := by omega
      have hin : (i : Int) < (n : Int) := by omega
      have hi0 : (0 : Int) ≤ (i : Int) := by omega
      have hj0 : (0 : Int) ≤ (j : Int) := by omega
      rw [hj]
      obtain ⟨g, rfl, hgb, hgs, c1, c2, f1, f2, ⟨u, c3⟩, f3, hS⟩ := hO.out.swp2 (i := i) (j := j) (by omega) (by omega)
      obtain ⟨x, hx⟩ : ∃ x, x = gi G i := ⟨_, rfl⟩
      obtain ⟨y, hy⟩ : ∃ y, y = gi G j := ⟨_, rfl⟩
      rw [← hx] at c1 hS
      rw [← hy] at c2 c3 f3 hS
      have hS2 := hide hS.drew
      have hB2 := hide ((hB.setCell (p := ⟨g, i, none⟩) hgb (.int .i64 y)).setCell (p := ⟨g, j, none⟩) hgb (.int .i64 x)).drew
      have hG2 : Hid ((swp G i j).length = n ∧ ∀ k, k < n → gi (swp G i j) k = if k < i + 1 ∨ n < k + 1 + (i + 1) then gi l (n - 1 - k) else gi l k) := hide (by
        obtain ⟨g1, g2⟩ := hG.out
        refine ⟨by rw [swp_len, g1], fun k hk => ?_⟩
        rw [gi_swp (by omega) (by omega), g2 i (by omega), g2 j (by omega), g2 k hk]
        have hjj : j = n - 1 - i := by omega
        by_cases hkj : k = j
        · rw [if_pos hkj, if_neg (by omega), if_pos (by omega)]
          congr 1
          omega
        · rw [if_neg hkj]
          by_cases hki : k = i
          · rw [if_pos hki, if_neg (by omega), if_pos (by omega)]
            congr 1
            omega
          · rw [if_neg hki]
            by_cases hc : k < i ∨ n < k + 1 + i
            · rw [if_pos hc, if_pos (by omega)]
            · rw [if_neg hc, if_neg (by omega)])
      have u1 : IntKind.i64.wrap ((i : Int) + 1) = ((i + 1 : Nat) : Int) := by rw [IntWalk.i64_in _ (by omega)]; omega
      have u2 : IntKind.i64.wrap ((j : Int) - 1) = (n : Int) - 1 - ((i + 1 : Nat) : Int) := by rw [IntWalk.i64_in _ (by omega)]; omega
      have him : i < n := by omega
      replace hx := hide hx
      replace hy := hide hy
      replace hj := hide hj
      clear hS hG hO hB
      go_upto_region 3 with fail
      refine wp_only ?_
      refine wp_region_mixL (fun W => W = wr.drew) [13, 14, 15] [2, 3] [(0, true), (1, true), (2, true), (3, true), (4, true), (5, true), (6, true), (7, true), (8, true), (9, true), (10, true), (11, true), (12, true), (13, false), (14, false), (15, false)] (by kernel_rfl) (by kernel_rfl) (by kernel_rfl) (by kernel_rfl) (by kernel_rfl) (by kernel_rfl) (fun _ _ d _ _ h => by cases h.1) rfl ?_
      iterate 2
        apply mixL_q rfl rfl rfl
        · intro W hW
          subst hW
          go_simp
          try exact rfl
        simp only [Act.put, List.setIfInBounds_toArray, List.set_cons_zero, List.set_cons_succ]
      iterate 2
        apply mixL_f rfl rfl
        · intro W
          go_simp
          try exact rfl
        simp only [Act.put, List.setIfInBounds_toArray, List.set_cons_zero, List.set_cons_succ]
      iterate 9
        apply mixL_q rfl rfl rfl
        · intro W hW
          subst hW
          go_simp
          try exact rfl
        simp only [Act.put, List.setIfInBounds_toArray, List.set_cons_zero, List.set_cons_succ]
      iterate 3
        refine mixL_w rfl rfl (fun K hK => ?_)
        go_simp
        refine hK _ _ (fun h => absurd (by decide) h) ?_
        clear hK K
        try simp only [Act.put, List.setIfInBounds_toArray, List.set_cons_zero, List.set_cons_succ]
      refine mixL_nil ⟨rfl, ?_⟩
      go_wp2
      refine ⟨?_, ?_⟩
      · exact ⟨i + 1, _, by omega, by first | rfl | skip, by first | rfl | skip, hG2, hS2, hB2.out⟩
      · simp [intOf]; omega
    · have hij : ¬ (i : Int) < (n : Int) - 1 - i := by omega
      have hfin : Hid (Own intE 3 base wr (.slice A n c) l.reverse) := hide (by
        obtain ⟨g1, g2⟩ := hG.out
        have := rev_of hn.out g1 g2 (by omega)
        rw [← this]
        exact hO.out)
      clear hO hG
      go_wp2
      go_end0
      exact ⟨⟨_, rfl⟩, hfin.out, hB⟩
/-- the law's question: an edge to v from a node that is one less deep -/
def deepE (d : Int → Int) (v : Int) (e : Int × Int × Int) : Bool := (e.2.1 == v) && (d e.1 == d v - 1)
set_option maxRecDepth 100000 in
set_option maxHeartbeats 2000000 in
theorem deepFun_any (vB dB nn : Nat) (A : Option Addr) (c : Nat) (d : Int → Int) (v x y z : Int) (w : World) (hb : 0 ≤ d v ∧ d v ≤ 1000000000) (XV : Box w vB 3 (.int .i64 v)) (XD : Box w dB 28 (.slice A nn c)) (hO : Own intE 3 0 w (.slice A nn c) (rowF nn (dR d))) (hx : 0 ≤ x ∧ x < nn) (hv : 0 ≤ v ∧ v < nn) :
    Calls Try.prog 27 #[.agg #[.int .i64 x, .int .i64 y, .int .i64 z], .pointer (some ⟨vB, 0, none⟩), .pointer (some ⟨dB, 0, none⟩)] w fun e w' => e = .returned (.bool (deepE d v (x, y, z))) ∧ Ext w w' := by
  obtain ⟨i, rfl⟩ : ∃ i : Nat, x = (i : Int) := ⟨x.toNat, by omega⟩
  obtain ⟨j, rfl⟩ : ∃ j : Nat, v = (j : Int) := ⟨v.toNat, by omega⟩
  obtain ⟨a1, a2⟩ := hx
  obtain ⟨b1, b2⟩ := hv
  obtain ⟨g, rfl, hgs, c1⟩ := hO.at1 (i := i) (by omega)
  obtain ⟨g2, hg2, -, c2⟩ := hO.at1 (i := j) (by omega)
  injection hg2 with hg2
  injection hg2 with hg2
  subst hg2
  rw [gi_some (rowF_get (f := dR d) (show i < nn by omega))] at c1
  rw [gi_some (rowF_get (f := dR d) (show j < nn by omega))] at c2
  obtain ⟨q, hq⟩ : ∃ y', y' = deepE d (j : Int) ((i : Int), y, z) := ⟨_, rfl⟩
  obtain ⟨p1, hp1⟩ : ∃ u, u = dR d i := ⟨_, rfl⟩
  obtain ⟨p2, hp2⟩ : ∃ u, u = dR d j := ⟨_, rfl⟩
  have hpb := hb
  have hp2' : p2 = d (j : Int) := hp2
  rw [← hp2'] at hpb
  have ew : IntKind.i64.wrap (p2 - 1) = p2 - 1 := IntWalk.i64_in _ (by omega)
  have hqq : Hid (q = ((y == (j : Int)) && (p1 == p2 - 1))) := hide (by rw [hq, hp1, hp2]; rfl)
  rw [← hq]
  rw [← hp1] at c1
  rw [← hp2] at c2
  clear hO hq hp1 hp2 hp2' hpb hb
  obtain ⟨w1, hw1⟩ : ∃ w1, w1 = w.alloc (.cells #[.int .i64 i, .int .i64 y, .int .i64 z] 50) := ⟨_, rfl⟩
  have hE : Ext w w1 := by rw [hw1]; exact (Below.refl _ _).alloc (Nat.le_refl _) _
  have XE : BoxN w1 w.heap.size 50 #[.int .i64 i, .int .i64 y, .int .i64 z] := by rw [hw1]; exact BoxN.new _ _ _
  have d1 : w1.cell? ⟨g, i, none⟩ = some (.int .i64 p1) := (hE.cell (p := ⟨g, i, none⟩) hgs).trans c1
  have d2 : w1.cell? ⟨g, j, none⟩ = some (.int .i64 p2) := (hE.cell (p := ⟨g, j, none⟩) hgs).trans c2
  have hgs' : g < w1.heap.size := Nat.lt_of_lt_of_le hgs hE.size
  obtain ⟨pe, hpe⟩ : ∃ q, q = w.heap.size := ⟨_, rfl⟩
  have k0 := (XV.ext hE).cell
  have s0 := (XV.ext hE).lt
  have k1 := (XD.ext hE).cell
  have s1 := (XD.ext hE).lt
  have e0 := XE.cell 0 (v := .int .i64 i) rfl
  have e1 := XE.cell 1 (v := .int .i64 y) rfl
  have se := XE.lt
  rw [← hpe] at e0 e1 se
  clear XV XD XE c1 c2
  replace hE := hide hE
  go_enter Try.func27, Try.ntmps27
  go_upto_region 1 with fail
  rw [← hw1, ← hpe]
  clear hw1 hpe
  by_cases hyj : y = (j : Int)
  · have hyj' : (y == (j : Int)) = true := by simp [hyj]
    rw [hyj', Bool.true_and] at hqq
    replace hyj := hide hyj
    refine wp_region_reads [(0, true), (1, true), (2, true), (3, true), (4, true), (5, true), (6, true), (7, true), (8, true), (9, true), (10, true), (11, true), (12, true), (13, true), (14, true), (15, true), (16, true), (17, true)] (by kernel_rfl) (by kernel_rfl) (by kernel_rfl) (by kernel_rfl) (fun _ _ d _ _ h => by cases d <;> exact h) ?_
    iterate 5
      apply mix_q rfl rfl
      · intro W hW
        subst hW
        go_simp
        try exact rfl
      simp only [Act.put, List.setIfInBounds_toArray, List.set_cons_zero, List.set_cons_succ]
    iterate 11
      apply mix_on rfl (wanted_is rfl rfl rfl rfl rfl)
      · intro W hW
        subst hW
        go_simp
        try exact rfl
      simp only [Act.put, List.setIfInBounds_toArray, List.set_cons_zero, List.set_cons_succ]
    iterate 2
      apply mix_q rfl rfl
      · intro W hW
        subst hW
        go_simp
        try exact rfl
      simp only [Act.put, List.setIfInBounds_toArray, List.set_cons_zero, List.set_cons_succ]
    refine mix_nil ?_
    go_wp2
    go_ret
    exact ⟨by rw [hqq.out]; rfl, hE.out.drew⟩
  · have hyj' : (y == (j : Int)) = false := by simp [hyj]
    rw [hyj', Bool.false_and] at hqq
    replace hyj := hide hyj
    refine wp_region_reads [(0, true), (1, true), (2, true), (3, true), (4, true), (5, true), (6, true), (7, true), (8, true), (9, true), (10, true), (11, true), (12, true), (13, true), (14, true), (15, true), (16, true), (17, true)] (by kernel_rfl) (by kernel_rfl) (by kernel_rfl) (by kernel_rfl) (fun _ _ d _ _ h => by cases d <;> exact h) ?_
    iterate 5
      apply mix_q rfl rfl
      · intro W hW
        subst hW
        go_simp
        try exact rfl
      simp only [Act.put, List.setIfInBounds_toArray, List.set_cons_zero, List.set_cons_succ]
    iterate 11
      refine mix_off rfl (wanted_is rfl rfl rfl rfl rfl) ?_
      simp only [Act.put, List.setIfInBounds_toArray, List.set_cons_zero, List.set_cons_succ]
    iterate 2
      apply mix_q rfl rfl
      · intro W hW
        subst hW
        go_simp
        try exact rfl
      simp only [Act.put, List.setIfInBounds_toArray, List.set_cons_zero, List.set_cons_succ]
    refine mix_nil ?_
    go_wp2
    go_ret
    exact ⟨by rw [hqq.out]; rfl, hE.out.drew⟩
theorem enter_deepF (args : Array Value) (w : World) : (callFunc 27 args).run Try.prog w = .ok (.enter 27 args) w := enters_of Try.func27 (by kernel_rfl) rfl args w
set_option maxRecDepth 100000 in
set_option maxHeartbeats 8000000 in
theorem topoDeep_any (n : Int) (A : Option Addr) (m c : Nat) (xs : List (Int × Int × Int)) (w : World) (hm : m = xs.length) (hmc : m ≤ c) (h : Rd edgeE w.heap.size w A xs) :
    Calls Try.prog 7 #[.agg #[.int .i64 n, .slice A m c]] w fun e w' => e = .returned (.bool true) ∧ Ext w w' := by
  replace h := hide h
  replace hm := hide hm
  go_enter Try.func7, Try.ntmps7
  go_upto_region 1 with fail
  obtain ⟨w0, hw0⟩ : ∃ w0, w0 = w.alloc (.cells #[.int .i64 n, .slice A m c] 24) := ⟨_, rfl⟩
  rw [← hw0]
  have T : Ext w w0 := by rw [hw0]; exact (Below.refl _ _).alloc (Nat.le_refl _) _
  have X1 : Hid (BoxG w0 w.heap.size n A m c) := hide (by rw [hw0]; exact BoxN.new w _ _)
  clear hw0
  obtain ⟨pg, hpg⟩ : ∃ b, b = w.heap.size := ⟨_, rfl⟩
  rw [← hpg] at X1 ⊢
  clear hpg
  go_wp2_with fail
  refine (wakes_any _).mono ?_
  rintro e w1 ⟨rfl, hE⟩
  replace T := T.trans (hE.mono T.size)
  replace X1 := hide (X1.out.ext hE)
  clear hE
  have k10 := X1.out.cell 0 (v := .int .i64 n) rfl
  have k11 := X1.out.cell 1 (v := .slice A m c) rfl
  have s1 := X1.out.lt
  have hla : (xs.take 60).length ≤ 60 := by rw [List.length_take]; omega
  obtain ⟨a, ha⟩ : ∃ a, a = xs.take 60 := ⟨_, rfl⟩
  rw [← ha] at hla
  replace ha := hide ha
  go_wp2_with fail
  refine (fair_any n A m c xs _ (h.out.ext T) hm.out hmc).mono ?_
  rintro e w2 ⟨v, rfl, hO, hE⟩
  rw [← ha.out] at hO
  replace T := T.trans (hE.mono T.size)
  clear hE k10 k11 s1 X1
  obtain ⟨A3, c3, rfl, r3, hcc3, -⟩ := hO.rd
  obtain ⟨n3, e3⟩ : ∃ q, q = List.length a := ⟨_, rfl⟩
  rw [← e3] at hcc3 ⊢
  replace r3 := hide r3
  replace e3 := hide e3
  clear hO
  have hl3 : n3 ≤ 60 := by have := e3.out; omega
  have hl3b : n3 ≤ 1000000 := by omega
  go_upto_region 4 with fail
  obtain ⟨w4, hw⟩ : ∃ q, q = World.alloc w2 (.cells #[.int .i64 n, .slice A3 n3 c3] 24) := ⟨_, rfl⟩
  rw [← hw]
  have hE : Ext w2 w4 := by rw [hw]; exact (Below.refl _ _).alloc (Nat.le_refl _) _
  have X3 : Hid (BoxG w4 (World.heap w2).size n A3 n3 c3) := hide (by rw [hw]; exact BoxN.new _ _ _)
  clear hw
  obtain ⟨p3, hp⟩ : ∃ q, q = (World.heap w2).size := ⟨_, rfl⟩
  rw [← hp] at X3 ⊢
  clear hp
  replace r3 := hide (r3.out.ext hE)
  have hB := hide (T.trans (hE.mono T.size))
  clear hE T
  have T : Ext w4 w4 := Below.refl _ _
  obtain ⟨y2, hy2⟩ : ∃ q, q = ordB n a := ⟨_, rfl⟩
  obtain ⟨y4, hy4⟩ : ∃ q, q = chkG n a := ⟨_, rfl⟩
  obtain ⟨L, hL⟩ : ∃ q, q = depL n a := ⟨_, rfl⟩
  replace hy2 := hide hy2
  replace hy4 := hide hy4
  replace hL := hide hL
  have k30 := (X3.out.ext T).cell 0 (v := .int .i64 n) rfl
  have k31 := (X3.out.ext T).cell 1 (v := .slice A3 n3 c3) rfl
  have s3 := (X3.out.ext T).lt
  go_wp2_with fail
  refine (depth_any n A3 n3 c3 a _ (r3.out.ext T) e3.out hcc3 hl3b).mono ?_
  rintro e w5 ⟨v, rfl, hO, hE⟩
  rw [← hy2.out, ← hy4.out]
  rw [← hL.out] at hO
  replace T := T.trans (hE.mono T.size)
  obtain ⟨A6, c6, rfl, -, -, -⟩ := hO.rd
  obtain ⟨l6, e6⟩ : ∃ q, q = L.length := ⟨_, rfl⟩
  rw [← e6] at hO ⊢
  replace hO := hide (hO.base_le (Nat.zero_le _))
  replace e6 := hide e6
  clear hE k30 k31 s3
  cases y2 with
  | false =>
    have v6 : l6 = 0 := by rw [e6.out, hL.out]; unfold depL; rw [if_neg (by rw [← hy2.out]; decide)]; rfl
    subst v6
    have TW := hB.out.trans (T.mono hB.out.size)
    have hfin := hide (TW.alloc TW.size (.cells #[.slice A6 0 c6] 28))
    clear T TW hO
    by_cases h4 : y4 = 0
    · subst h4
      go_wp2
      go_ret
      exact ⟨rfl, hfin.out⟩
    · have h4' : (y4 == 0) = false := by simp [h4]
      replace h4 := hide h4
      go_wp2
      go_ret
      exact ⟨rfl, hfin.out⟩
  | true =>
    have hob := hy2.out
    unfold ordB at hob
    have hob2 := hob.symm
    rw [Bool.and_eq_true, decide_eq_true_eq] at hob2
    obtain ⟨hr, hln⟩ := hob2
    clear hob
    have v4 : y4 = 0 := by rw [hy4.out, chkG_yes hr]
    subst v4
    obtain ⟨nn, rfl⟩ : ∃ nn : Nat, n = nn := ⟨n.toNat, by have := ((rightG_iff n a).1 hr).1; omega⟩
    rw [Int.toNat_natCast] at hln
    have hnn : nn ≤ 300 := by have := ((rightG_iff _ a).1 hr).2.1; omega
    have hj := joins_of hr
    obtain ⟨d, hD, hd0, hde⟩ := deep_ex hj hln
    have hLd : L = rowF nn (dR d) := by
      rw [hL.out]
      unfold depL
      rw [if_pos hy2.out.symm, Int.toNat_natCast]
      exact rowF_congr fun j hj => hde (j : Int) (by omega) (by omega)
    have hl6 : nn = l6 := by rw [e6.out, hLd, rowF_len]
    subst hl6
    rw [hLd] at hO
    have hall : ∀ v : Int, 0 ≤ v ∧ v < nn → v ∈ ordN nn a := fun v hv => nodup_full ord_nodup.1 ord_nodup.2 (by rw [hln]; exact Nat.le_refl _) hv
    have hdl : Hid (∀ v : Int, 0 ≤ v → v < nn → 0 ≤ d v ∧ d v < nn) := hide (fun v h1 h2 => by
      have hlt3 := deep_lt hD nn v (hall v ⟨h1, h2⟩)
      rw [show itN nn a nn = ordN nn a from rfl, hln] at hlt3
      exact ⟨hd0 v, hlt3⟩)
    have hed : Hid (∀ e ∈ a, ¬ d e.2.1 ≤ d e.1) := hide (fun e he => by have := hD.1 e he; omega)
    have hfr : Hid (∀ e ∈ a, (0 ≤ e.1 ∧ e.1 < nn) ∧ 0 ≤ e.2.1 ∧ e.2.1 < nn) := hide (fun e he => (hj e he).1)
    have hq : Hid (∀ v : Int, 0 ≤ v → v < nn → a.any (deepE d v) = decide (0 < d v)) := hide (fun v h1 h2 => by
      rw [Bool.eq_iff_iff, List.any_eq_true, decide_eq_true_eq]
      constructor
      · rintro ⟨e, he, hc⟩
        unfold deepE at hc
        rw [Bool.and_eq_true, beq_iff_eq, beq_iff_eq] at hc
        have := hd0 e.1
        omega
      · intro hpos
        rcases hD.2 v h1 h2 with h3 | ⟨e, he, hev, h3⟩
        · omega
        · refine ⟨e, he, ?_⟩
          unfold deepE
          rw [Bool.and_eq_true, beq_iff_eq, beq_iff_eq]
          exact ⟨hev, by omega⟩)
    have hRR : Hid (topR nn (ofE (a.map turn)) (ordN nn a).reverse = true) := hide (by
      have h1 := rev_right hr
      unfold topR
      rw [h1, Bool.true_and, Int.toNat_natCast, refR_iff (joins_of h1)]
      exact rev_rightO (ord_right (fun e he => (hj e he).1) hln))
    obtain ⟨g1, g2, g3⟩ := g_yes (l := ofE (a.map turn)) hr
    have hLo : Hid (ordL (nn : Int) a = ordN nn a) := hide (by unfold ordL; rw [if_pos ⟨hr, by rw [Int.toNat_natCast]; exact hln⟩, Int.toNat_natCast])
    have hofl : Hid ((ofE (a.map turn)).length ≤ 60) := hide (by have h1 := ofE_len (a.map turn); rw [List.length_map] at h1; omega)
    replace g1 := hide g1
    replace g2 := hide g2
    replace g3 := hide g3
    replace hr := hide hr
    replace hln := hide hln
    clear hD hd0 hde hj hall hLd
    obtain ⟨w6, hw6⟩ : ∃ q, q = w5.alloc (.cells #[.slice A6 nn c6] 28) := ⟨_, rfl⟩
    have hE6 : Ext w5 w6 := by rw [hw6]; exact (Below.refl _ _).alloc (Nat.le_refl _) _
    have XD : Hid (Box w6 w5.heap.size 28 (.slice A6 nn c6)) := hide (by rw [hw6]; exact Box.new _ _ _)
    have hO6 := hide (hO.out.ext hE6)
    have T6 := hide (T.trans (hE6.mono T.size))
    have X36 := hide (X3.out.ext T6.out)
    have r36 := hide (r3.out.ext T6.out)
    have hB6 := hide (hB.out.trans (T6.out.mono hB.out.size))
    obtain ⟨dB, hdB⟩ : ∃ q, q = w5.heap.size := ⟨_, rfl⟩
    rw [← hdB] at XD
    go_upto_region 5 with fail
    rw [← hw6, ← hdB]
    clear hw6 hdB hE6 T hO X3 r3 hB T6
    have k31 := X36.out.cell 1 (v := .slice A3 n3 c3) rfl
    have s3 := X36.out.lt
    go_wp2
    clear k31 s3
    go_loopw [41] (fun q wr => ∃ k : Nat, k ≤ n3 ∧ q = .int .i64 k ∧ Ext w6 wr) (fun q _ => n3 - (intOf q).toNat)
    case atStart => exact ⟨0, Nat.zero_le _, rfl, Below.refl _ _⟩
    case round =>
      obtain ⟨k, hk, rfl, T⟩ := hrel
      by_cases hlt : k < n3
      · have hlt' : (k : Int) < (n3 : Int) := by omega
        obtain ⟨bk, off, rfl, ra⟩ := r36.out.at_ (i := k) (by rw [← e3.out]; exact hlt)
        obtain ⟨⟨p1, p2, q3⟩, hx⟩ := get_some (xs := a) (i := k) (by rw [← e3.out]; exact hlt)
        obtain ⟨hx1, hx2, hx3⟩ := (ra.below T).edge hx
        have hbk : bk < wr.heap.size := cell_lt hx1
        have hme := List.mem_of_getElem? hx
        obtain ⟨⟨ha0, han⟩, hp0, hpn⟩ := hfr.out _ hme
        have hde := hed.out _ hme
        simp only at ha0 han hp0 hpn hde
        obtain ⟨i1, rfl⟩ : ∃ i1 : Nat, p1 = (i1 : Int) := ⟨p1.toNat, by omega⟩
        obtain ⟨i2, rfl⟩ : ∃ i2 : Nat, p2 = (i2 : Int) := ⟨p2.toNat, by omega⟩
        have hin1 : i1 < nn := by omega
        have hin2 : i2 < nn := by omega
        obtain ⟨w9, hw9⟩ : ∃ x, x = wr.alloc (.cells #[.int .i64 i1, .int .i64 i2, .int .i64 q3] 50) := ⟨_, rfl⟩
        have hE9 : Ext wr w9 := by rw [hw9]; exact (Below.refl _ _).alloc (Nat.le_refl _) _
        have X8 : BoxN w9 wr.heap.size 50 #[.int .i64 i1, .int .i64 i2, .int .i64 q3] := by rw [hw9]; exact BoxN.new _ _ _
        have T9 := T.trans (hE9.mono T.size)
        obtain ⟨g, hAg, hgs, c1⟩ := (hO6.out.ext T9).at1 hin1
        subst hAg
        obtain ⟨g2', hg2, -, c2⟩ := (hO6.out.ext T9).at1 hin2
        injection hg2 with hg2
        injection hg2 with hg2
        subst hg2
        rw [gi_some (rowF_get (f := dR d) hin1)] at c1
        rw [gi_some (rowF_get (f := dR d) hin2)] at c2
        obtain ⟨u1, hu1⟩ : ∃ u, u = dR d i1 := ⟨_, rfl⟩
        obtain ⟨u2, hu2⟩ : ∃ u, u = dR d i2 := ⟨_, rfl⟩
        rw [← hu1] at c1
        rw [← hu2] at c2
        have hnu : ¬ u2 ≤ u1 := by rw [hu1, hu2]; unfold dR; omega
        have k4 := (XD.out.ext T9).cell
        have s4 := (XD.out.ext T9).lt
        have k80 := X8.cell 0 (v := .int .i64 i1) rfl
        have k81 := X8.cell 1 (v := .int .i64 i2) rfl
        have s8 := X8.lt
        have f0 : (0 : Int) ≤ (i1 : Int) := by omega
        have f1 : (0 : Int) ≤ (i2 : Int) := by omega
        obtain ⟨pe, hpe⟩ : ∃ q, q = wr.heap.size := ⟨_, rfl⟩
        replace hx := hide hx
        replace ra := hide ra
        replace hme := hide hme
        replace hde := hide hde
        replace hu1 := hide hu1
        replace hu2 := hide hu2
        go_upto_region 10 with fail
        rw [← hw9, ← hpe]
        rw [← hpe] at k80 k81 s8 X8
        clear hw9 hpe hx1 hx2 hx3 hbk hE9 T X8
        refine wp_region_reads [(0, true), (1, true), (2, true), (3, true), (4, true), (5, true), (6, true), (7, true), (8, true), (9, true), (10, true)] (by kernel_rfl) (by kernel_rfl) (by kernel_rfl) (by kernel_rfl) (fun _ _ d _ _ h => by cases d <;> exact h) ?_
        iterate 11
          apply mix_q rfl rfl
          · intro W hW
            subst hW
            go_simp
            try exact rfl
          simp only [Act.put, List.setIfInBounds_toArray, List.set_cons_zero, List.set_cons_succ]
        refine mix_nil ?_
        have T10 := T9.drew
        clear T9 c1 c2 k4 s4 k80 k81 s8
        go_wp2
        refine ⟨?_, ?_⟩
        · first
            | exact ⟨k + 1, by omega, by first | omega | go_num, T10⟩
            | ((repeat apply Exists.intro); exact ⟨⟨k + 1, by omega, by first | omega | go_num, T10⟩, rfl⟩)
        · first | (simp [intOf, lenV]; omega) | (simp [intOf]; omega) | (simp [intOf]; done)
      · have hlt' : ¬ (k : Int) < (n3 : Int) := by omega
        have k30 := (X36.out.ext T).cell 0 (v := .int .i64 nn) rfl
        have s3 := (X36.out.ext T).lt
        go_wp2
        clear k30 s3
        go_loopw [59] (fun q wx => ∃ k : Nat, k ≤ nn ∧ q = .int .i64 k ∧ Ext w6 wx) (fun q _ => nn - (intOf q).toNat)
        case atStart => exact ⟨0, Nat.zero_le _, rfl, T⟩
        case round =>
          clear T
          obtain ⟨k, hk, rfl, T⟩ := hrel
          by_cases hlt : k < nn
          · have hlt' : (k : Int) < (nn : Int) := by omega
            have hk0 : (0 : Int) ≤ (k : Int) := by omega
            obtain ⟨w9, hw9⟩ : ∃ x, x = wr.alloc (.cells #[.int .i64 k] 3) := ⟨_, rfl⟩
            have hE9 : Ext wr w9 := by rw [hw9]; exact (Below.refl _ _).alloc (Nat.le_refl _) _
            have X9 : Box w9 wr.heap.size 3 (.int .i64 k) := by rw [hw9]; exact Box.new _ _ _
            have T9 := T.trans (hE9.mono T.size)
            obtain ⟨g, hAg, hgs, c1⟩ := (hO6.out.ext T9).at1 hlt
            subst hAg
            rw [gi_some (rowF_get (f := dR d) hlt)] at c1
            obtain ⟨b1, b2⟩ := hdl.out (k : Int) hk0 hlt'
            obtain ⟨u1, hu1⟩ : ∃ u, u = dR d k := ⟨_, rfl⟩
            have hu1' : u1 = d (k : Int) := hu1
            rw [← hu1] at c1
            rw [← hu1'] at b1 b2
            have hn0 : ¬ u1 < 0 := by omega
            have hqk := hq.out (k : Int) hk0 hlt'
            rw [← hu1'] at hqk
            replace hqk := hide hqk
            have k4 := (XD.out.ext T9).cell
            have s4 := (XD.out.ext T9).lt
            have k9 := X9.cell
            have s9 := X9.lt
            have k31 := (X36.out.ext T9).cell 1 (v := .slice A3 n3 c3) rfl
            have s3 := (X36.out.ext T9).lt
            obtain ⟨vB, hvB⟩ : ∃ q, q = wr.heap.size := ⟨_, rfl⟩
            replace hu1 := hide hu1
            replace hu1' := hide hu1'
            have hcon : Hid (∀ W, Ext w9 W → Calls Try.prog 24 #[.slice A3 n3 c3, .func (.func 27) #[] #[.pointer (some ⟨vB, 0, none⟩), .pointer (some ⟨dB, 0, none⟩)]] W fun e w' => e = .returned (.bool (a.any (deepE d (k : Int)))) ∧ Ext W w') := hide (fun W hW =>
              containsE_any A3 n3 c3 a _ _ (deepE d (k : Int)) W (r36.out.ext (T9.trans (hW.mono T9.size))) e3.out hl3b ⟨enter_deepF, fun p q r W2 hp hW2 => by
                have hEE := hW.trans (hW2.mono hW.size)
                exact deepFun_any vB dB nn _ c6 d (k : Int) p q r W2 ⟨by rw [← hu1'.out]; exact b1, by rw [← hu1'.out]; omega⟩ (by rw [hvB]; exact X9.ext hEE) (XD.out.ext (T9.trans (hEE.mono T9.size))) (hO6.out.ext (T9.trans (hEE.mono T9.size))) (hfr.out _ hp).1 ⟨hk0, hlt'⟩⟩)
            go_upto_region 17 with fail
            rw [← hw9, ← hvB]
            rw [← hvB] at k9 s9
            have T9h := hide T9
            clear hw9 hvB hE9 X9 T T9
            have T : Ext w9 w9.drew := (Below.refl _ _).drew
            refine wp_region_mix (fun W => Below w9.heap.size w9 W) [(0, true), (1, true), (2, true), (3, true), (4, true), (5, true), (6, true), (7, true), (8, true), (9, true), (10, true), (11, true), (12, true), (13, true), (14, false), (15, true), (16, true)] (by kernel_rfl) (by kernel_rfl) (by kernel_rfl) (by kernel_rfl) (fun _ _ d _ _ h => by cases d <;> exact h) ?_ ?_
            · exact T
            obtain ⟨wl, hwh⟩ : ∃ x, x = w9.drew := ⟨_, rfl⟩
            rw [← hwh] at T ⊢
            clear hwh
            iterate 6
              apply mix_q rfl rfl
              · intro W hW
                have hcW := (bcell hW).1
                go_simp
                try exact rfl
              simp only [Act.put, List.setIfInBounds_toArray, List.set_cons_zero, List.set_cons_succ]
            iterate 8
              apply mix_on rfl (wanted_is rfl rfl rfl rfl rfl)
              · intro W hW
                have hcW := (bcell hW).1
                go_simp
                try exact rfl
              simp only [Act.put, List.setIfInBounds_toArray, List.set_cons_zero, List.set_cons_succ]
            refine mix_won rfl (wanted_is rfl rfl rfl rfl rfl) (fun K hK => ?_)
            go_simp
            refine (hcon.out _ T).mono ?_
            rintro e wn ⟨rfl, hE⟩
            rw [hqk.out]
            refine hK _ _ (T.trans (hE.mono T.size)) ?_
            clear hK K
            try simp only [Act.put, List.setIfInBounds_toArray, List.set_cons_zero, List.set_cons_succ]
            replace T := T.trans (hE.mono T.size)
            clear hE hcon
            have T10 := T9h.out.trans (T.mono T9h.out.size)
            by_cases hpos : 0 < u1
            · iterate 1
                apply mix_on rfl (wanted_is rfl rfl rfl rfl rfl)
                · intro W hW
                  have hcW := (bcell hW).1
                  go_simp
                  try exact rfl
                simp only [Act.put, List.setIfInBounds_toArray, List.set_cons_zero, List.set_cons_succ]
              iterate 1
                apply mix_q rfl rfl
                · intro W hW
                  have hcW := (bcell hW).1
                  go_simp
                  try exact rfl
                simp only [Act.put, List.setIfInBounds_toArray, List.set_cons_zero, List.set_cons_succ]
              refine mix_nil ?_
              clear T c1 k4 s4 k9 s9 k31 s3
              go_wp2
              refine ⟨?_, ?_⟩
              · first
                  | exact ⟨k + 1, by omega, by first | omega | go_num, T10⟩
                  | ((repeat apply Exists.intro); exact ⟨⟨k + 1, by omega, by first | omega | go_num, T10⟩, rfl⟩)
              · first | (simp [intOf, lenV]; omega) | (simp [intOf]; omega) | (simp [intOf]; done)
            · iterate 1
                apply mix_on rfl (wanted_is rfl rfl rfl rfl rfl)
                · intro W hW
                  have hcW := (bcell hW).1
                  go_simp
                  try exact rfl
                simp only [Act.put, List.setIfInBounds_toArray, List.set_cons_zero, List.set_cons_succ]
              iterate 1
                apply mix_q rfl rfl
                · intro W hW
                  have hcW := (bcell hW).1
                  go_simp
                  try exact rfl
                simp only [Act.put, List.setIfInBounds_toArray, List.set_cons_zero, List.set_cons_succ]
              refine mix_nil ?_
              clear T c1 k4 s4 k9 s9 k31 s3
              go_wp2
              refine ⟨?_, ?_⟩
              · first
                  | exact ⟨k + 1, by omega, by first | omega | go_num, T10⟩
                  | ((repeat apply Exists.intro); exact ⟨⟨k + 1, by omega, by first | omega | go_num, T10⟩, rfl⟩)
              · first | (simp [intOf, lenV]; omega) | (simp [intOf]; omega) | (simp [intOf]; done)
          · have hlt' : ¬ (k : Int) < (nn : Int) := by omega
            have k30 := (X36.out.ext T).cell 0 (v := .int .i64 nn) rfl
            have k31 := (X36.out.ext T).cell 1 (v := .slice A3 n3 c3) rfl
            have s3 := (X36.out.ext T).lt
            have hbas := T.size
            go_wp2_with fail
            refine (order_any nn A3 n3 c3 a _ (r36.out.ext T) e3.out hcc3 hl3b).mono ?_
            rintro e w8 ⟨v, rfl, hO8, hE8⟩
            rw [← hy2.out, g2.out]
            rw [hLo.out] at hO8
            obtain ⟨A7, c7, rfl, -, -, -⟩ := hO8.rd
            rw [hln.out] at hO8 ⊢
            have hrev := hide (reverseI_any wr.heap.size A7 nn c7 (ordN nn a) w8 hO8 hln.out.symm (by omega) hE8.size)
            clear k30 k31 s3 hO8
            go_wp2_with fail
            refine hrev.out.mono ?_
            rintro e w9 ⟨⟨x, rfl⟩, hO9, hB9⟩
            replace T := T.trans ((hE8.trans hB9).mono T.size)
            have r9 := hide (rdO hO9)
            clear hrev hO9 hB9 hE8 hbas
            have k30 := (X36.out.ext T).cell 0 (v := .int .i64 nn) rfl
            have k31 := (X36.out.ext T).cell 1 (v := .slice A3 n3 c3) rfl
            have s3 := (X36.out.ext T).lt
            go_wp2_with fail
            refine (reverse_any nn A3 n3 c3 a _ (r36.out.ext T) e3.out hl3b).mono ?_
            rintro e w10 ⟨v, rfl, hO10, hE10⟩
            rw [g1.out, g2.out]
            rw [g3.out] at hO10
            obtain ⟨A10, c10, rfl, r10, -, -⟩ := hO10.rd
            obtain ⟨es, hes⟩ : ∃ es, es = ofE (a.map turn) := ⟨_, rfl⟩
            rw [← hes] at r10 hO10 hRR hofl ⊢
            obtain ⟨l10, e10⟩ : ∃ q, q = es.length := ⟨_, rfl⟩
            rw [← e10] at hO10 hofl ⊢
            have hl10 := hofl.out
            replace T := T.trans (hE10.mono T.size)
            replace r9 := hide (r9.out.ext hE10)
            replace r10 := hide r10
            replace e10 := hide e10
            replace hes := hide hes
            clear hO10 hE10 k30 k31 s3
            obtain ⟨w11, hw11⟩ : ∃ q, q = w10.alloc (.cells #[.int .i64 nn, .slice A10 l10 c10] 24) := ⟨_, rfl⟩
            have hE11 : Ext w10 w11 := by rw [hw11]; exact (Below.refl _ _).alloc (Nat.le_refl _) _
            have X11 : BoxN w11 w10.heap.size 24 #[.int .i64 nn, .slice A10 l10 c10] := by rw [hw11]; exact BoxN.new _ _ _
            have k140 := X11.cell 0 (v := .int .i64 nn) rfl
            have k141 := X11.cell 1 (v := .slice A10 l10 c10) rfl
            have s14 := X11.lt
            have hrt := hide (right_any nn A10 l10 c10 es A7 nn c7 (ordN nn a).reverse w11 (r10.out.ext hE11) e10.out (by omega) (r9.out.ext hE11) (by rw [List.length_reverse, hln.out]))
            have T11 := T.trans (hE11.mono T.size)
            rw [hw11] at k140 k141 s14 hrt
            clear X11
            go_wp2_with fail
            refine hrt.out.mono ?_
            rintro e w12 ⟨rfl, hE⟩
            rw [← hw11] at hE
            rw [hRR.out]
            have hfin := hide (hB6.out.trans ((T11.trans (hE.mono T11.size)).mono hB6.out.size))
            clear hrt hE T T11 hw11 k140 k141 s14 hE11
            go_wp2
            go_ret
            exact ⟨rfl, hfin.out⟩
end Go.Proofs.Ytepgpiolhiidiaa
