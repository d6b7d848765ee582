/- slices.Collect over topo.taken; topo.Order. -/
import Derived.Test.YtepgpiolhiidiaaTopF
import Derived.Test.YtepgpiolhiidiaaGraO
namespace Go.Proofs.Ytepgpiolhiidiaa
open Go.RowKit Go.Shelf
attribute [local go_sem] Oper.semAt_some

section
variable {α : Type} {F : Fence} {nF : Nat} {P : Program} {E : El α} {t e : TypeId} {bytes base B : Nat} {w : World} {v : Value} {xs : List α} {y : α} {o : Oper} {a : Act} {Q : Exit → Act → World → Prop}
theorem wpListIn_app1b {ops : Array Oper} {rest : List Oper} (T : Ty P E t e bytes) (hgd : o.guard = none) (s x : Operand) (ho : o.op = .call { callee := .builtin .append, args := #[s, x], argTypes := #[t, t] })
    (hs : a.eval s = v) (hown : Own E e base w v xs) {ad : Addr} (hx : a.eval x = .slice (some ad) 1 1) (hr : Rd E B w (some ad) [y])
    (hlen : xs.length + 1 ≤ 100000000) (hbase : base ≤ w.heap.size)
    (h : ∀ v' w', Own E e base w' v' (xs ++ [y]) → w.grownBy w' v.ownBlock → (v'.ownBlock = v.ownBlock ∨ v'.ownBlock = some w.heap.size) → wpListIn F nF P ops Q rest (a.put o.dst v') w') : wpListIn F nF P ops Q (o :: rest) a w := by
  obtain ⟨i, z, hi, hz, hsz, hby, hzs⟩ := T.info
  have hcells : ∀ j u, (E.cs y)[j]? = some u → w.cell? (ad.add j) = some u := by
    rcases hr with h | ⟨b, off, he, hr⟩
    · cases h
    · injection he with he
      subst he
      intro j u hu
      refine hr.cells j u ?_
      rw [El.row_one]; exact hu
  have hb2 : (xs.length + 1) * bytes ≤ 140737488355328 := Nat.le_trans (Nat.mul_le_mul hlen T.small) (by omega)
  refine wpListIn_append_own_at w hgd s x t ho base e i z E.sz bytes T.und hi hz hsz hby hzs E.pos v xs.length (E.row xs) hs hown ad 1 1 (E.cs y) hx (by rw [E.len]; omega) hcells (E.one y) (by simp only [maxLen]; omega) hb2 hbase ?_
  intro v' w' h1 h2 _ h5
  refine h v' w' ?_ h2 h5
  unfold Own
  rw [List.length_append, List.length_singleton, E.row_append, E.row_one]
  exact h1
end
theorem KpT.of {n₀ gB B : Nat} {s : StT} {O : List Nat} {W W' : World} (h : Stir O W W') (hn : n₀ ≤ B) (hg : gB < B) (hBW : B ≤ W.heap.size) (hO : ∀ k ∈ O, B ≤ k ∧ k ∉ s.2) (hX : ∀ k ∈ s.2, k < W.heap.size) : KpT n₀ gB s W W' :=
  ⟨h.below (Nat.le_trans hn hBW) (fun k hk => Nat.le_trans hn (hO k hk).1), fun o ho => (h.block (by omega) (fun hc => by have := (hO _ hc).1; omega)).trans ho, fun k hk o ho _ => (h.block (hX k hk) (fun hc => (hO k hc).2 hk)).trans ho⟩
theorem holdT_of {B n : Nat} {I : StT → World → Prop} (hI : ∀ T O O' A C, I (T, O) A → Stir O A C → (∀ k ∈ O, B ≤ k) → (∀ k ∈ O', k ∈ O ∨ A.heap.size ≤ k) → I (T, O') C) {R : World → Prop} (hR : ∀ A C, R A → KeepsFrom n A C → R C) : HoldT B (fun s W => I s W ∧ R W) := by
  intro T O O' A C ⟨h1, h2⟩ hs hO hO'
  refine ⟨hI T O O' A C h1 hs (fun k hk => (hO k hk).1) hO', hR A C h2 ⟨hs.size, fun k o _ hk ho => ?_⟩⟩
  refine (hs.block (Array.getElem?_eq_some_iff.1 hk).1 (fun hc => ?_)).trans hk
  rw [(hO k hc).2 o hk] at ho
  cases ho
set_option maxRecDepth 100000 in
set_option maxHeartbeats 4000000 in
theorem appendSeqI_any (gB nn : Nat) (A : Option Addr) (m c : Nat) (xs : List (Int × Int × Int)) (hm : m = xs.length) (hmc : m ≤ c) (hr : rightG nn xs = true) (w : World)
    (hg : BoxN w gB 24 #[.int .i64 nn, .slice A m c]) (hrd : Rd edgeE w.heap.size w A xs) :
    Calls Try.prog 53 #[.slice none 0 0, .func (.func 54) #[] #[.pointer (some ⟨gB, 0, none⟩)]] w fun e w' => ∃ v, e = .returned v ∧ Own intE 3 w.heap.size w' v (ordN nn xs) ∧ Ext w w' := by
  refine (callsIn_wide (n := 10)).1 ?_
  have hgl := hg.lt
  have hole : (ordN nn xs).length ≤ 300 := by
    have h1 := ord_le (n := nn) (xs := xs)
    obtain ⟨-, r2, -⟩ := (rightG_iff _ xs).1 hr
    omega
  replace hm := hide hm
  replace hr := hide hr
  refine callsIn_of_wp_marks Try.func53 rfl trivial ?_ rfl
  simp only [Try.ntmps53, List.size_toArray, List.length_cons, List.length_nil, Nat.reduceAdd, Nat.reduceSub, Array.replicate_succ, Array.replicate_zero, List.push_toArray, List.append_toArray, List.nil_append, List.cons_append]
  gi_wp2
  obtain ⟨w1, hw1⟩ : ∃ x, x = w.alloc (.cells #[.slice none 0 0] 28) := ⟨_, rfl⟩
  have hE1 : Ext w w1 := by rw [hw1]; exact (Below.refl _ w).alloc (Nat.le_refl _) _
  have B1 : Box w1 w.heap.size 28 (.slice none 0 0) := by rw [hw1]; exact Box.new _ _ _
  rw [← hw1]
  clear hw1
  obtain ⟨sB, hsB⟩ : ∃ x, x = w.heap.size := ⟨_, rfl⟩
  rw [← hsB] at B1 ⊢
  have hle : w.heap.size ≤ sB := by omega
  clear hsB
  have hs1 : w.heap.size ≤ w1.heap.size := hE1.size
  have hfl1 : gB < w1.heap.size := by omega
  refine rangeT rfl (by decide) (gf := 54) (lb := #[.pointer (some ⟨gB, 0, none⟩)]) rfl trivial (enters_of Try.func54 (by kernel_rfl) rfl)
    (taken_seq 9 gB w.heap.size nn A m c xs hm.out hmc hr.out w (Nat.le_refl _) hg hrd) (fun h k => h.trans k) (fun s W l o o' h1 h2 h3 _ => KpT.turn hs1 hfl1 W l o o' h1 h2 h3)
    (fun s x A B row hs hg _ => ⟨hs.1, fun k hk => Nat.lt_of_lt_of_le (hs.2 k hk) hg.size⟩) hE1 (fun _ => rfl)
    (fun (s : StT) W => (∃ v, Box W sB 28 v ∧ Own intE 3 w.heap.size W v s.1 ∧ sB ∉ s.2 ∧ ∀ k, v.ownBlock = some k → k ∉ s.2) ∧ Below w.heap.size w W)
    (OwnFrom.and (Own.from (fun sx A B row hs hg hr => by obtain ⟨v, h1, h2, h3, h4⟩ := hs; exact ⟨v, h1.grown hg (noncell_ne h1 hr), h2.noncell hg hr, h3, h4⟩) _) (ownFrom_below (Nat.le_refl _) hs1))
    ⟨⟨_, B1, Own.nil_, by simp, fun k hk => by cases hk⟩, hE1⟩
    (fun R hR => holdT_of (fun T O O' A C h hs hO hO' => by
      obtain ⟨⟨v, h1, h2, h3, h4⟩, h5⟩ := h
      refine ⟨⟨v, h1.stir hs h3, h2.stir hs h4, fun hc => ?_, fun k hk hc => ?_⟩, h5.trans (hs.below h5.size hO)⟩
      · rcases hO' _ hc with h | h
        · exact h3 h
        · have := h1.lt; omega
      · rcases hO' _ hc with h | h
        · exact h4 k hk h
        · have := (h2.lt k hk).2; omega) hR)
    (fun (x : Int) b W => b = { tmps := #[.slice none 0 0, .func (.func 54) #[] #[.pointer (some ⟨gB, 0, none⟩)], .pointer (some ⟨sB, 0, none⟩), undef, .slice none 0 0, .int .i64 x, .func (.func 54) #[] #[.pointer (some ⟨gB, 0, none⟩)], .int .i64 x, undef, undef, undef, undef, undef], defers := [] })
    (fun x b A B row h hg hr => h)
    (fun s A B hA hg => KpT.ext (grown_none hg) (by omega)) ?assign ?body ?done
  case assign =>
    intro l x W K hK
    dsimp only [encT]
    gi_wp2
    exact hK _ _ (World.grownBy.refl _ _) rfl
  case body =>
    rintro l ⟨pre, O⟩ x W b ⟨⟨v, hv, hrow, hn1, hn2⟩, hB⟩ ⟨hX, hXl⟩ rfl
    simp only at hrow hn1 hn2 hX hXl ⊢
    have hlen : pre.length + 1 ≤ 300 := by
      have h1 := hX.length_le
      simp only [List.length_append, List.length_singleton] at h1
      omega
    have hc := hv.cell
    have sc := hv.lt
    obtain ⟨A5, c5, rfl, -, -, -⟩ := hrow.rd
    have hrn := rd_newAt (e := 3) intE W x W.heap.size rfl
    have Oa := hrow.alloc (.cells (intE.cs x).toArray 3)
    have hva := hv.alloc (.cells (intE.cs x).toArray 3)
    have hBa := hB.alloc hB.size (.cells (intE.cs x).toArray 3)
    have hsa : W.heap.size ≤ (W.alloc (.cells (intE.cs x).toArray 3)).heap.size := by simp
    replace hrn := hide hrn
    replace Oa := hide Oa
    replace hva := hide hva
    replace hBa := hide hBa
    replace hn1 := hide hn1
    replace hn2 := hide hn2
    replace hX := hide hX
    replace hXl := hide hXl
    replace hsa := hide hsa
    gi_wp2_with (gi_at_builtin; refine wpListIn_app1b tyInt rfl (.tmp 8) (.tmp 10) rfl rfl Oa.out rfl hrn.out (by omega) (by have := hB.size; simp; omega) ?_)
    intro v' w9 hown hgr hne
    have hvb := hva.out.app Oa.out hgr (by decide)
    have hBb : Below w.heap.size w w9 := Own.below Oa.out hBa.out hgr (by have := hB.size; simp; omega)
    have fb := hvb.free
    have cb9 := hvb.cell
    have sb := hvb.lt
    have hvc := hvb.set v'
    have hOO : ∀ k ∈ sB :: (Value.slice A5 pre.length c5).ownBlock.toList, w.heap.size ≤ k ∧ k ∉ O := fun k hk => by
      rcases List.mem_cons.1 hk with rfl | hk
      · exact ⟨hle, hn1.out⟩
      · have hk2 : (Value.slice A5 pre.length c5).ownBlock = some k := by simpa using hk
        exact ⟨(hrow.lt k hk2).1, hn2.out k hk2⟩
    have hs9 : Stir (sB :: (Value.slice A5 pre.length c5).ownBlock.toList) W (w9.setCell ⟨sB, 0, none⟩ v') :=
      ((Stir.alloc _ W _).trans1 (Stir.grown hgr (fun k hk => by rw [hk]; simp))).trans1 (Stir.setCell (p := ⟨sB, 0, none⟩) (by simp) _ _)
    have hk9 : KeepsFrom w1.heap.size W w9 := ((KeepsOthers.alloc W _).from _).trans ((KeepsOthers.of_grownBy hgr (fun j o hj ho => by obtain ⟨cc, hcc⟩ := Oa.out.block j hj; have h9 := hcc.symm.trans ho; injection h9 with h9; subst h9; rfl)).from _)
    have hown2 := hown.set hvb (by decide) v'
    have hnew : ∀ k, v'.ownBlock = some k → k ∉ O := fun k hk hc => by
      have h9 := hXl.out k hc
      rcases hne with h1 | h1
      · exact hn2.out k (h1 ▸ hk) hc
      · rw [h1] at hk
        injection hk with hk
        have := hsa.out
        omega
    have hk2 : KpT w.heap.size gB (pre, O) W (w9.setCell ⟨sB, 0, none⟩ v') := KpT.of hs9 (Nat.le_refl _) hgl hB.size hOO hXl.out
    have hBs := hBb.setCell (p := ⟨sB, 0, none⟩) hle v'
    have hks := hk9.trans ((KeepsOthers.setCell w9 ⟨sB, 0, none⟩ v').from _)
    obtain ⟨A6, c6, rfl, -, -, -⟩ := hown.rd
    obtain ⟨l6, hl6⟩ : ∃ l, l = (pre ++ [x]).length := ⟨_, rfl⟩
    rw [← hl6] at hvc hown2 hBs hk2 hnew hks ⊢
    replace hl6 := hide hl6
    replace hown2 := hide hown2
    replace hvc := hide hvc
    replace hBs := hide hBs
    replace hk2 := hide hk2
    replace hnew := hide hnew
    replace hks := hide hks
    clear hown hvb hgr Oa hva hBa hBb hc sc hrn hrow hv hOO hs9 hk9 hne
    gi_wp2
    exact ⟨hks.out, hk2.out, ⟨_, hvc.out, hown2.out, hn1.out, hnew.out⟩, hBs.out⟩
  case done =>
    rintro D s W hD hS ⟨⟨v, hv, hrow, -, -⟩, hB⟩ hK
    rw [hS] at hrow
    have hc := hv.cell
    have sc := hv.lt
    replace hrow := hide hrow
    obtain ⟨A5, c5, rfl, -, -, -⟩ := hrow.out.rd
    gi_wp2
    refine ⟨by simp, .inl ⟨_, _, rfl, run_takeDeferred hK, ?_⟩⟩
    exact ⟨_, results_tmp rfl _ _ _, _, rfl, Own.putObj hrow.out _ hK rfl, hB.trans (belowK_b (w := w) (Nat.le_refl _) W D _ _ (by omega) hK rfl rfl)⟩
set_option maxHeartbeats 1000000 in
theorem collectI_any (gB nn : Nat) (A : Option Addr) (m c : Nat) (xs : List (Int × Int × Int)) (hm : m = xs.length) (hmc : m ≤ c) (hr : rightG nn xs = true) (w : World)
    (hg : BoxN w gB 24 #[.int .i64 nn, .slice A m c]) (hrd : Rd edgeE w.heap.size w A xs) :
    Calls Try.prog 35 #[.func (.func 54) #[] #[.pointer (some ⟨gB, 0, none⟩)]] w fun e w' => ∃ v, e = .returned v ∧ Own intE 3 w.heap.size w' v (ordN nn xs) ∧ Ext w w' := by
  have hs := hide (appendSeqI_any gB nn A m c xs hm hmc hr w hg hrd)
  clear hg hrd hr
  replace hm := hide hm
  go_enter Try.func35, Try.ntmps35
  go_wp2_with fail
  refine hs.out.mono ?_
  rintro e w3 ⟨v, rfl, hO, hE⟩
  clear hs
  obtain ⟨A3, c3, rfl, -, -, -⟩ := hO.rd
  replace hO := hide hO
  replace hE := hide hE
  go_wp2
  go_ret
  exact ⟨_, rfl, hO.out, hE.out⟩
/-- topo.Order's three answers -/
def ordL (n : Int) (xs : List (Int × Int × Int)) : List Int := if rightG n xs = true ∧ (ordN n.toNat xs).length = n.toNat then ordN n.toNat xs else []
def ordB (n : Int) (xs : List (Int × Int × Int)) : Bool := rightG n xs && decide ((ordN n.toNat xs).length = n.toNat)
set_option maxRecDepth 100000 in
set_option maxHeartbeats 4000000 in
theorem order_any (n : Int) (A : Option Addr) (m c : Nat) (xs : List (Int × Int × Int)) (w : World) (h : Rd edgeE w.heap.size w A xs) (hm : m = xs.length) (hmc : m ≤ c) (hl : m ≤ 1000000) :
    Calls Try.prog 14 #[.agg #[.int .i64 n, .slice A m c]] w fun e w' => ∃ v, e = .returned (.tuple #[v, .bool (ordB n xs), .int .i64 (chkG n xs)]) ∧ Own intE 3 w.heap.size w' v (ordL n xs) ∧ Ext w w' := by
  obtain ⟨y1, hy1⟩ : ∃ q, q = ordL n xs := ⟨_, rfl⟩
  obtain ⟨y2, hy2⟩ : ∃ q, q = ordB n xs := ⟨_, rfl⟩
  obtain ⟨y3, hy3⟩ : ∃ q, q = chkG n xs := ⟨_, rfl⟩
  rw [← hy1, ← hy2, ← hy3]
  replace hy1 := hide hy1
  replace hy2 := hide hy2
  replace hy3 := hide hy3
  replace h := hide h
  replace hm := hide hm
  go_enter Try.func14, Try.ntmps14
  go_upto_region 1 with fail
  obtain ⟨w0, hw0⟩ : ∃ w0, w0 = w.alloc (.cells #[.int .i64 n, .slice A m c] 24) := ⟨_, rfl⟩
  rw [← hw0]
  have hE0 : Ext w w0 := by rw [hw0]; exact (Below.refl _ _).alloc (Nat.le_refl _) _
  have X1 : BoxG w0 w.heap.size n A m c := by rw [hw0]; exact BoxN.new w _ _
  clear hw0
  obtain ⟨pg, hpg⟩ : ∃ b, b = w.heap.size := ⟨_, rfl⟩
  rw [← hpg] at X1 ⊢
  clear hpg
  have k10 := X1.cell 0 (v := .int .i64 n) rfl
  have k11 := X1.cell 1 (v := .slice A m c) rfl
  have s1 := X1.lt
  go_wp2_with fail
  refine (check_any n A m c xs _ (h.out.ext hE0) hm.out hl).mono ?_
  rintro e w1 ⟨rfl, hE⟩
  replace X1 := X1.ext hE
  have hB := hE0.trans (hE.mono hE0.size)
  clear k10 k11 s1 hE hE0
  cases hr : rightG n xs with
  | false =>
    rw [chkG_no hr]
    have v1 : Hid (y1 = []) := hide (by rw [hy1.out]; unfold ordL; rw [if_neg (by rw [hr]; simp)])
    have v2 : Hid (y2 = false) := hide (by rw [hy2.out]; unfold ordB; rw [hr]; rfl)
    have v3 : Hid (y3 = 150) := hide (by rw [hy3.out, chkG_no hr])
    replace hr := hide hr
    go_wp2
    go_ret3
    exact ⟨_, by rw [v2.out, v3.out]; rfl, by rw [v1.out]; exact Own.nil_, hB⟩
  | true =>
    rw [chkG_yes hr]
    obtain ⟨nn, rfl⟩ : ∃ nn : Nat, n = nn := ⟨n.toNat, by have := ((rightG_iff n xs).1 hr).1; omega⟩
    have v3 : Hid (y3 = 0) := hide (by rw [hy3.out, chkG_yes hr])
    have k10 := X1.cell 0 (v := .int .i64 (nn : Int)) rfl
    have k11 := X1.cell 1 (v := .slice A m c) rfl
    have s1 := X1.lt
    replace hr := hide hr
    go_wp2_with fail
    refine (taken_any nn A m c _).mono ?_
    rintro e w2 ⟨rfl, hw2⟩
    have hE2 : Ext w1 w2 := by rw [hw2]; exact (Below.refl _ _).alloc (Nat.le_refl _) _
    have hg2 : BoxN w2 w1.heap.size 24 #[.int .i64 nn, .slice A m c] := by rw [hw2]; exact BoxN.new _ _ _
    have hB2 := hB.trans (hE2.mono hB.size)
    replace X1 := X1.ext hE2
    clear hw2 k10 k11 s1
    have hcol := hide (collectI_any w1.heap.size nn A m c xs hm.out hmc hr.out w2 hg2 (h.out.ext hB2))
    go_wp2_with fail
    refine hcol.out.mono ?_
    rintro e w3 ⟨v, rfl, hO, hE3⟩
    clear hcol hg2
    replace X1 := X1.ext hE3
    have hB3 := hB2.trans (hE3.mono hB2.size)
    obtain ⟨A3, c3, rfl, -, -, -⟩ := hO.rd
    have k10 := X1.cell 0 (v := .int .i64 (nn : Int)) rfl
    have s1 := X1.lt
    have hle := ord_le (n := nn) (xs := xs)
    generalize hL : (ordN nn xs).length = L at *
    replace hO := hide (hO.base_le hB2.size)
    by_cases hln : L < nn
    · have hln' : (L : Int) < (nn : Int) := by omega
      have v1 : Hid (y1 = []) := hide (by rw [hy1.out]; unfold ordL; rw [if_neg (by rw [Int.toNat_natCast, hL]; omega)])
      have v2 : Hid (y2 = false) := hide (by rw [hy2.out]; unfold ordB; rw [Int.toNat_natCast, hL, decide_eq_false (by omega)]; simp)
      replace hL := hide hL
      go_wp2
      go_ret3
      exact ⟨_, by rw [v2.out, v3.out]; rfl, by rw [v1.out]; exact Own.nil_, hB3⟩
    · have hln' : ¬ (L : Int) < (nn : Int) := by omega
      have v1 : Hid (y1 = ordN nn xs) := hide (by rw [hy1.out]; unfold ordL; rw [if_pos ⟨hr.out, by rw [Int.toNat_natCast, hL]; omega⟩, Int.toNat_natCast])
      have v2 : Hid (y2 = true) := hide (by rw [hy2.out]; unfold ordB; rw [hr.out, Int.toNat_natCast, hL, decide_eq_true (by omega)]; rfl)
      replace hL := hide hL
      go_wp2
      go_ret3
      exact ⟨_, by rw [v2.out, v3.out]; rfl, by rw [v1.out]; exact hO.out, hB3⟩
end Go.Proofs.Ytepgpiolhiidiaa
