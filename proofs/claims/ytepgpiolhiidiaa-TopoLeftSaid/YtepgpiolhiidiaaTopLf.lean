/- topo.Left. -/
import Derived.Test.YtepgpiolhiidiaaTopX
namespace Go.Proofs.Ytepgpiolhiidiaa
open Go.RowKit Go.Shelf
attribute [local go_sem] Oper.semAt_some

/-! ### Rows of truth values -/
def boolE : El Bool := ⟨fun x => [.bool x], 1, fun _ => rfl, by decide, fun x u hu => by simp at hu; subst hu; rfl⟩
theorem tyBool : Ty Try.prog boolE 66 4 1 := ty_of (z := .bool false) (sz := 1) Try.underlying66 (by kernel_rfl) rfl rfl (by decide)
theorem zero_bool : ∀ i z, Try.prog.info? 4 = some i → i.zero = some z → z.cells.toList = boolE.cs false := by
  intro i z hi hz
  have e1 : ((Try.prog).info? 4).map (·.zero) = some (some (.bool false)) := by kernel_rfl
  rw [hi] at e1
  simp [hz] at e1
  subst e1
  rfl
def rowB (N : Nat) (f : Nat → Bool) : List Bool := (List.range N).map f
theorem rowB_len (N : Nat) (f : Nat → Bool) : (rowB N f).length = N := by unfold rowB; simp
theorem rowB_get {N : Nat} {f : Nat → Bool} {i : Nat} (h : i < N) : (rowB N f)[i]? = some (f i) := by unfold rowB; rw [List.getElem?_map, List.getElem?_range h]; rfl
theorem rowB_set {N : Nat} {f : Nat → Bool} {i : Nat} {x : Bool} : (rowB N f).set i x = rowB N fun j => if j = i then x else f j := by
  apply List.ext_getElem?
  intro j
  rw [List.getElem?_set, rowB_len]
  by_cases hj : j < N
  · rw [rowB_get hj, rowB_get hj]
    by_cases hij : i = j
    · subst hij; simp [hj]
    · rw [if_neg hij, if_neg (Ne.symm hij)]
  · rw [List.getElem?_eq_none (by rw [rowB_len]; omega), List.getElem?_eq_none (by rw [rowB_len]; omega)]
    split
    · rw [if_neg (by omega)]
    · rfl
theorem rowB_congr {N : Nat} {f g : Nat → Bool} (h : ∀ i, i < N → f i = g i) : rowB N f = rowB N g := by
  unfold rowB
  exact List.map_congr_left fun i hi => h i (List.mem_range.1 hi)
theorem rowB_zero (N : Nat) : List.replicate N false = rowB N fun _ => false := by
  apply List.ext_getElem?
  intro j
  by_cases hj : j < N
  · rw [rowB_get hj, List.getElem?_replicate, if_pos hj]
  · rw [List.getElem?_eq_none (by simp; omega), List.getElem?_eq_none (by rw [rowB_len]; omega)]
theorem RdAt.bool {B : Nat} {w : World} {b off : Nat} {xs : List Bool} (h : RdAt boolE B w b off xs) {i : Nat} {p : Bool} (hx : xs[i]? = some p) : w.cell? ⟨b, off + i, none⟩ = some (.bool p) := by
  have := h.2 i _ hx 0 _ rfl
  simpa [boolE] using this
theorem Own.setB {e : TypeId} {base : Nat} {w : World} {A : Option Addr} {n c : Nat} {xs : List Bool} (h : Own boolE e base w (.slice A n c) xs) {i : Nat} (hi : i < n) (x : Bool) :
    ∃ g u, A = some ⟨g, 0, none⟩ ∧ base ≤ g ∧ g < w.heap.size ∧ w.cell? ⟨g, i, none⟩ = some u ∧ w.frozen? ⟨g, i, none⟩ = false ∧ Own boolE e base (w.setCell ⟨g, i, none⟩ (.bool x)) (.slice A n c) (xs.set i x) := by
  obtain ⟨hl, h2⟩ := h
  rcases h2 with ⟨h1, h2⟩ | ⟨g, cap, cur, h1, hb, hg, hnc, hcm, hsz, hcur⟩
  · injection h1 with h3 h4 h5
    omega
  · injection h1 with h3 h4 h5
    subst h3 h5
    have hgs : g < w.heap.size := by
      rcases Nat.lt_or_ge g w.heap.size with hlt | hge
      · exact hlt
      · rw [Array.getElem?_eq_none hge] at hg
        cases hg
    have hic : i < cur.size := by rw [hsz]; show i < _ * 1; omega
    have hrow : boolE.row (xs.set i x) = (boolE.row xs).set i (.bool x) := by
      have hr : ∀ l : List Bool, boolE.row l = l.map Value.bool := fun l => by
        induction l with
        | nil => rfl
        | cons y ys ih => rw [El.row_cons, ih]; rfl
      rw [hr, hr, List.map_set]
    refine ⟨g, cur[i], rfl, hb, hgs, ?_, ?_, ?_⟩
    · unfold World.cell?
      rw [hg]
      simp [hic]
    · unfold World.frozen?
      rw [hg]
      simp
    unfold Own
    rw [List.length_set]
    refine ⟨by rw [El.row_length, List.length_set], .inr ⟨g, c, cur.setIfInBounds i (.bool x), by rw [h4], hb, ?_, by omega, hcm, by rw [Array.size_setIfInBounds]; exact hsz, ?_⟩⟩
    · show (w.heap.modify g _)[g]? = _
      rw [Array.getElem?_modify, if_pos rfl, hg]
      rfl
    · rw [Array.toList_setIfInBounds, List.take_set, hcur, hrow]
theorem Own.atB {e : TypeId} {base : Nat} {w : World} {A : Option Addr} {n c : Nat} {xs : List Bool} (h : Own boolE e base w (.slice A n c) xs) {i : Nat} {p : Bool} (hx : xs[i]? = some p) : ∃ g, A = some ⟨g, 0, none⟩ ∧ g < w.heap.size ∧ w.cell? ⟨g, i, none⟩ = some (.bool p) := by
  obtain ⟨A', c', hv, hrd, -, -⟩ := h.rd
  injection hv with e1 e2 e3
  subst e1 e3
  obtain ⟨g, u, hg, -, hgs, -⟩ := h.setB (i := i) (by have := (List.getElem?_eq_some_iff.1 hx).1; omega) true
  obtain ⟨b0, o0, hA, ra⟩ := hrd.at_ (i := i) (List.getElem?_eq_some_iff.1 hx).1
  rw [hA] at hg
  injection hg with hg
  injection hg with h1 h2
  subst h1 h2
  exact ⟨b0, hA, hgs, by have := ra.bool hx; simpa using this⟩
/-- the nodes that are left -/
def leftN (nn : Nat) (xs : List (Int × Int × Int)) : List Int := (nodes nn).filter fun v => !decide (v ∈ ordN nn xs)
def leftL (n : Int) (xs : List (Int × Int × Int)) : List Int := if rightG n xs = true then leftN n.toNat xs else []
def goneF (T : List Int) (j : Nat) : Bool := decide ((j : Int) ∈ T)
theorem goneF_step (T : List Int) (i : Nat) (j : Nat) : goneF (T ++ [(i : Int)]) j = if j = i then true else goneF T j := by
  unfold goneF
  by_cases h : j = i
  · subst h; simp
  · rw [if_neg h]
    congr 1
    rw [List.mem_append, List.mem_singleton]
    refine propext ⟨fun h1 => h1.elim id (fun h2 => by omega), .inl⟩
theorem goneF_nil (nn : Nat) : List.replicate nn false = rowB nn (goneF []) := by rw [rowB_zero]; exact rowB_congr fun i _ => by unfold goneF; simp
theorem nodes_snoc (k : Nat) : nodes (k + 1) = nodes k ++ [(k : Int)] := by unfold nodes; rw [List.range_succ, List.map_append]; rfl
set_option maxRecDepth 100000 in
set_option maxHeartbeats 4000000 in
theorem left_any (n : Int) (A : Option Addr) (m c : Nat) (xs : List (Int × Int × Int)) (w : World) (h : Rd edgeE w.heap.size w A xs) (hm : m = xs.length) (hmc : m ≤ c) (hl : m ≤ 1000000) :
    Calls Try.prog 16 #[.agg #[.int .i64 n, .slice A m c]] w fun e w' => ∃ v, e = .returned (.tuple #[v, .int .i64 (chkG n xs)]) ∧ Own intE 3 w.heap.size w' v (leftL n xs) ∧ Ext w w' := by
  obtain ⟨y2, hy2⟩ : ∃ q, q = chkG n xs := ⟨_, rfl⟩
  obtain ⟨y3, hy3⟩ : ∃ q, q = leftL n xs := ⟨_, rfl⟩
  rw [← hy2, ← hy3]
  replace hy2 := hide hy2
  replace hy3 := hide hy3
  replace h := hide h
  replace hm := hide hm
  refine (callsIn_wide (n := 10)).1 ?_
  refine callsIn_of_wp_marks Try.func16 rfl trivial ?_ rfl
  simp only [Try.ntmps16, List.size_toArray, List.length_cons, List.length_nil, Nat.reduceAdd, Nat.reduceSub, Array.replicate_succ, Array.replicate_zero, List.push_toArray, List.append_toArray, List.nil_append, List.cons_append]
  refine wpIn_wide.2 ?_
  go_upto_region 1 with fail
  obtain ⟨w0, hw0⟩ : ∃ w0, w0 = w.alloc (.cells #[.int .i64 n, .slice A m c] 24) := ⟨_, rfl⟩
  rw [← hw0]
  have hE0 : Ext w w0 := by rw [hw0]; exact (Below.refl _ _).alloc (Nat.le_refl _) _
  have X1 : BoxG w0 w.heap.size n A m c := by rw [hw0]; exact BoxN.new w _ _
  clear hw0
  obtain ⟨pg, hpg⟩ : ∃ b, b = w.heap.size := ⟨_, rfl⟩
  rw [← hpg] at X1 ⊢
  have hpgle : w.heap.size ≤ pg := Nat.le_of_eq hpg.symm
  clear hpg
  have k10 := X1.cell 0 (v := .int .i64 n) rfl
  have k11 := X1.cell 1 (v := .slice A m c) rfl
  have s1 := X1.lt
  go_wp2_with fail
  refine (check_any n A m c xs _ (h.out.ext hE0) hm.out hl).mono ?_
  rintro e w1 ⟨rfl, hE⟩
  replace X1 := X1.ext hE
  have hB := hE0.trans (hE.mono hE0.size)
  clear k10 k11 s1 hE hE0
  cases hr : rightG n xs with
  | false =>
    rw [chkG_no hr]
    have v2 : Hid (y2 = 150) := hide (by rw [hy2.out, chkG_no hr])
    have v3 : Hid (y3 = []) := hide (by rw [hy3.out]; unfold leftL; rw [if_neg (by rw [hr]; decide)])
    replace hr := hide hr
    go_wp2
    refine ⟨_, results_tmp2 rfl _ _ _, ?_⟩
    exact ⟨_, by rw [v2.out]; rfl, by rw [v3.out]; exact Own.nil_, hB⟩
  | true =>
    rw [chkG_yes hr]
    have v2 : Hid (y2 = 0) := hide (by rw [hy2.out, chkG_yes hr])
    obtain ⟨nn, rfl⟩ : ∃ nn : Nat, n = nn := ⟨n.toNat, by have := ((rightG_iff n xs).1 hr).1; omega⟩
    have hnn : nn ≤ 300 := by have := ((rightG_iff _ xs).1 hr).2.1; omega
    have v3 : Hid (y3 = leftN nn xs) := hide (by rw [hy3.out]; unfold leftL; rw [if_pos hr, Int.toNat_natCast])
    replace hr := hide hr
    have k10 := X1.cell 0 (v := .int .i64 (nn : Int)) rfl
    have k11 := X1.cell 1 (v := .slice A m c) rfl
    have s1 := X1.lt
    go_wp2_with (at_make; refine wpList_make (base := w1.heap.size) tyBool rfl _ _ rfl (n := nn) zero_bool rfl rfl rfl rfl (by omega) (Nat.le_refl _) ?_)
    intro w2 hown hgr
    have hE2 := grown_none hgr
    obtain ⟨gR, hgR⟩ : ∃ q, q = w1.heap.size := ⟨_, rfl⟩
    have hgl : gR < w2.heap.size := by rw [hgR]; exact (hown.lt w1.heap.size rfl).2
    have hown1 : Hid (Own boolE 4 w1.heap.size w2 (.slice (some ⟨gR, 0, none⟩) nn nn) (rowB nn (goneF []))) := hide (by rw [hgR, ← goneF_nil]; exact hown)
    rw [← hgR]
    have hgw : w1.heap.size ≤ gR := Nat.le_of_eq hgR.symm
    clear hown hgr hgR k10 k11 s1
    go_upto_region 5 with fail
    obtain ⟨w3, hw3⟩ : ∃ q, q = w2.alloc (.cells #[.slice (some ⟨gR, 0, none⟩) nn nn] 66) := ⟨_, rfl⟩
    rw [← hw3]
    have hE3 : Ext w2 w3 := by rw [hw3]; exact (Below.refl _ _).alloc (Nat.le_refl _) _
    have X5 : Box w3 w2.heap.size 66 (.slice (some ⟨gR, 0, none⟩) nn nn) := by rw [hw3]; exact Box.new _ _ _
    replace hown1 := hide (hown1.out.ext hE3)
    have hE13 := hE2.trans (hE3.mono hE2.size)
    replace X1 := X1.ext hE13
    have hB3 := hB.trans (hE13.mono hB.size)
    clear hw3
    obtain ⟨gX, hgX⟩ : ∃ q, q = w2.heap.size := ⟨_, rfl⟩
    rw [← hgX] at X5 ⊢
    have hgx : gR < gX := by omega
    clear hgX hE2 hE3
    have k10 := X1.cell 0 (v := .int .i64 (nn : Int)) rfl
    have k11 := X1.cell 1 (v := .slice A m c) rfl
    have s1 := X1.lt
    go_wp2_with fail
    refine (taken_any nn A m c _).mono ?_
    rintro e w4 ⟨rfl, hw4⟩
    have hE4 : Ext w3 w4 := by rw [hw4]; exact (Below.refl _ _).alloc (Nat.le_refl _) _
    have hg4 : BoxN w4 w3.heap.size 24 #[.int .i64 nn, .slice A m c] := by rw [hw4]; exact BoxN.new _ _ _
    clear hw4 k10 k11 s1
    obtain ⟨gE, hgE⟩ : ∃ q, q = w3.heap.size := ⟨_, rfl⟩
    rw [← hgE] at hg4 ⊢
    have hXE : gX < gE := by rw [hgE]; exact X5.lt
    have hpE : pg < gE := by rw [hgE]; exact X1.lt
    have hglt := hg4.lt
    replace X1 := X1.ext hE4
    replace X5 := X5.ext hE4
    replace hown1 := hide (hown1.out.ext hE4)
    have hB4 := hB3.trans (hE4.mono hB3.size)
    have hRd4 := h.out.below hB4
    clear hgE hE4 hB3 hE13
    go_wp2_with fail
    refine (wpIn_wide (n := 10)).1 ?_
    have hs4 : w.heap.size ≤ w4.heap.size := hB4.size
    have hs1 : w1.heap.size ≤ w4.heap.size := by omega
    have hws : w.heap.size ≤ w1.heap.size := hB.size
    refine rangeT rfl (by decide) (gf := 54) (lb := #[.pointer (some ⟨gE, 0, none⟩)]) rfl trivial (enters_of Try.func54 (by kernel_rfl) rfl)
      (taken_seq 9 gE w.heap.size nn A m c xs hm.out hmc hr.out w4 hs4 hg4 hRd4) (fun h k => h.trans k) (fun s W l o o' h1 h2 h3 _ => KpT.turn hs4 hglt W l o o' h1 h2 h3)
      (fun s x A B row hs hg _ => ⟨hs.1, fun k hk => Nat.lt_of_lt_of_le (hs.2 k hk) hg.size⟩) (Below.refl _ _) (fun _ => rfl)
      (fun (s : StT) W => (Own boolE 4 w1.heap.size W (.slice (some ⟨gR, 0, none⟩) nn nn) (rowB nn (goneF s.1)) ∧ Box W gX 66 (.slice (some ⟨gR, 0, none⟩) nn nn) ∧ BoxG W pg nn A m c ∧ gE < W.heap.size ∧ ∀ k ∈ s.2, gE < k) ∧ Below w.heap.size w W)
      (OwnFrom.and (Own.from (fun sx A B row hs hg hr => ⟨hs.1.noncell hg hr, hs.2.1.grown hg (noncell_ne hs.2.1 hr), hs.2.2.1.grown hg (noncell_ne hs.2.2.1 hr), Nat.lt_of_lt_of_le hs.2.2.2.1 hg.size, hs.2.2.2.2⟩) _) (ownFrom_below (Nat.le_refl _) hs4))
      ⟨⟨hown1.out, X5, X1, hglt, fun k hk => by cases hk⟩, hB4⟩
      (fun R hR => holdT_of (B := w4.heap.size) (fun T O O' A' C hi hs hO hO' => by
        obtain ⟨⟨h1, h2, h3, h4, h5⟩, h6⟩ := hi
        simp only at h4 h5
        refine ⟨⟨h1.stir hs (fun k hk hc => ?_), h2.stir hs (fun hc => ?_), h3.stir hs (fun hc => ?_), Nat.lt_of_lt_of_le h4 hs.size, fun k hk => ?_⟩, h6.trans (hs.below h6.size (fun k hk => Nat.le_trans hs4 (hO k hk)))⟩
        · have hke : gR = k := by injection hk
          have := hO _ hc
          omega
        · have := hO _ hc
          omega
        · have := hO _ hc
          omega
        · rcases hO' k hk with h | h
          · have := hO _ h
            omega
          · omega) hR)
      (fun (x : Int) b W => b = { tmps := #[.agg #[.int .i64 nn, .slice A m c], .pointer (some ⟨pg, 0, none⟩), .slice none 0 0, .int .i64 0, .int .i64 0, .pointer (some ⟨gX, 0, none⟩), .int .i64 x, undef, undef, .agg #[.int .i64 nn, .slice A m c], .int .i64 0, .int .i64 0, .bool false, undef, .pointer (some ⟨pg, 0, none⟩), .int .i64 nn, .slice (some ⟨gR, 0, none⟩) nn nn, .agg #[.int .i64 nn, .slice A m c], .func (.func 54) #[] #[.pointer (some ⟨gE, 0, none⟩)], .int .i64 x, undef, undef, undef, undef, undef, undef, undef, undef, undef, undef, undef, undef, undef, undef, undef, undef, undef, undef, undef], defers := [] })
      (fun x b A B row h hg hr => h)
      (fun s A B hA hg => KpT.ext (grown_none hg) (by omega)) ?assign ?body ?done
    case assign =>
      intro l x W K hK
      dsimp only [encT]
      gi_wp2
      exact hK _ _ (World.grownBy.refl _ _) rfl
    case body =>
      rintro l ⟨pre, O⟩ x W b ⟨⟨hrow, Z5, Z1, hgW, hOg⟩, hBW⟩ ⟨hX, hXl⟩ rfl
      simp only at hrow hOg hX hXl ⊢
      have hxm : x ∈ ordN nn xs := hX.subset (by simp)
      obtain ⟨hx0, hxn⟩ := ord_nodup.2 x hxm
      obtain ⟨i, rfl⟩ : ∃ i : Nat, x = (i : Int) := ⟨x.toNat, by omega⟩
      have hin : i < nn := by omega
      have hin' : (i : Int) < (nn : Int) := by omega
      have hi0 : (0 : Int) ≤ (i : Int) := by omega
      obtain ⟨g, u, hg0, hgb, hgs, hg3, hg4b, hS⟩ := hrow.setB hin true
      injection hg0 with hg1
      injection hg1 with hg2
      subst hg2
      have hrw : rowB nn (goneF (pre ++ [(i : Int)])) = (rowB nn (goneF pre)).set i true := by
        rw [rowB_set]
        exact rowB_congr fun j _ => goneF_step pre i j
      rw [← hrw] at hS
      have hS2 := hide hS
      have d1 : gX ≠ gR := by omega
      have d3 : pg ≠ gR := fun e => by
        subst e
        exact hrow.ne_type (E' := boolE) (e' := 4) hrow (by intro h9; cases hrow.block pg rfl with | intro c0 hc0 => have h8 := Z1.symm.trans hc0; injection h8 with h8; injection h8 with _ h8; cases h8) |>.elim (fun h => by cases h) (fun h => h rfl)
      have Z5' := hide (Z5.far (p := ⟨gR, i, none⟩) d1 (.bool true))
      have Z1' := hide (Z1.far (p := ⟨gR, i, none⟩) d3 (.bool true))
      have hB' := hide (hBW.setCell (p := ⟨gR, i, none⟩) (by show w.heap.size ≤ gR; omega) (.bool true))
      have hgW' : Hid (gE < (W.setCell ⟨gR, i, none⟩ (.bool true)).heap.size) := hide (Nat.lt_of_lt_of_le hgW ((Below.refl gR W).setCell (p := ⟨gR, i, none⟩) (Nat.le_refl _) (.bool true)).size)
      have hK' : Hid (KpT w.heap.size gE (pre, O) W (W.setCell ⟨gR, i, none⟩ (.bool true))) := hide ⟨(Below.refl _ _).setCell (p := ⟨gR, i, none⟩) (by show w.heap.size ≤ gR; omega) _, fun o ho => (Below.heap_setCell W ⟨gR, i, none⟩ _ gE (by show gE ≠ gR; omega)).trans ho,
        fun k hk o ho _ => (Below.heap_setCell W ⟨gR, i, none⟩ _ k (by have := hOg k hk; show k ≠ gR; omega)).trans ho⟩
      have k5 := Z5.cell
      have s5 := Z5.lt
      replace hOg := hide hOg
      replace hX := hide hX
      replace hXl := hide hXl
      replace hxm := hide hxm
      clear hS hrow hrw
      gi_wp2
      exact ⟨(KeepsOthers.setCell _ _ _).from _, hK'.out, ⟨hS2.out, Z5'.out, Z1'.out, hgW'.out, hOg.out⟩, hB'.out⟩
    case done =>
      rintro D s W hD hS ⟨⟨hrow, Z5, Z1, -, -⟩, hBW⟩ hK
      rw [hS] at hrow
      clear hS
      replace hrow := hide hrow
      replace Z5 := hide Z5
      have k10 := Z1.cell 0 (v := .int .i64 (nn : Int)) rfl
      have s1 := Z1.lt
      clear Z1 X1 X5 hown1 hg4 hRd4 hB4
      have hnil : Hid (Own intE 3 w.heap.size W (.slice none 0 0) ((nodes 0).filter fun v => !decide (v ∈ ordN nn xs))) := hide Own.nil_
      replace hK := hide hK
      go_wp2
      clear k10 s1
      go_loopw [25, 7] (fun q v wr => ∃ k : Nat, k ≤ nn ∧ q = .int .i64 k ∧ Hid (Own intE 3 w.heap.size wr v ((nodes k).filter fun v => !decide (v ∈ ordN nn xs))) ∧ Hid (Own boolE 4 w1.heap.size wr (.slice (some ⟨gR, 0, none⟩) nn nn) (rowB nn (goneF (ordN nn xs)))) ∧ Hid (Box wr gX 66 (.slice (some ⟨gR, 0, none⟩) nn nn)) ∧ Hid (wr.heap[D]? = some (.deferred (some []))) ∧ Below w.heap.size w wr) (fun q _ _ => nn - (intOf q).toNat)
      case atStart => exact ⟨0, Nat.zero_le _, rfl, hnil, hrow, Z5, hK, hBW⟩
      case round =>
        clear hnil hrow Z5 hK hBW
        obtain ⟨k, hk, rfl, hO, hrow, Z5, hK, hBW⟩ := hrel
        by_cases hlt : k < nn
        · have hlt' : (k : Int) < (nn : Int) := by omega
          obtain ⟨g, hg0, hgs, hc⟩ := hrow.out.atB (rowB_get (f := goneF (ordN nn xs)) hlt)
          injection hg0 with hg1
          injection hg1 with hg2
          subst hg2
          have k5 := Z5.out.cell
          have s5 := Z5.out.lt
          have hnk : (nodes (k + 1)).filter (fun v => !decide (v ∈ ordN nn xs)) = (nodes k).filter (fun v => !decide (v ∈ ordN nn xs)) ++ (if goneF (ordN nn xs) k = true then [] else [(k : Int)]) := by
            rw [nodes_snoc, List.filter_append]
            congr 1
            unfold goneF
            by_cases hm' : (k : Int) ∈ ordN nn xs
            · simp [hm']
            · simp [hm']
          cases hgk : goneF (ordN nn xs) k with
          | true =>
            rw [hgk] at hc hnk
            rw [if_pos rfl, List.append_nil] at hnk
            rw [← hnk] at hO
            replace hgk := hide hgk
            clear hnk
            go_wp2
            refine ⟨?_, ?_⟩
            · first
                | exact ⟨k + 1, by omega, by first | omega | go_num, hO, hrow, Z5, hK, hBW⟩
                | ((repeat apply Exists.intro); exact ⟨⟨k + 1, by omega, by first | omega | go_num, hO, hrow, Z5, hK, hBW⟩, rfl⟩)
            · first | (simp [intOf, lenV]; omega) | (simp [intOf]; omega) | (simp [intOf]; done)
          | false =>
            rw [hgk] at hc hnk
            rw [if_neg (by decide)] at hnk
            replace hgk := hide hgk
            replace hnk := hide hnk
            have hon := own_new (base := 0) (e := 3) intE wr (k : Int) wr.heap.size rfl (Nat.zero_le _)
            obtain ⟨A4, c4, hv1, hr4, -, -⟩ := hon.rd
            injection hv1 with hv2 hv3 hv4
            subst hv2
            clear hon hv3 hv4
            replace hr4 := hide hr4
            have hO1 := hide (hO.out.alloc (.cells (intE.cs (k : Int)).toArray 3))
            have hrow1 := hide (hrow.out.alloc (.cells (intE.cs (k : Int)).toArray 3))
            have Z51 := hide (Z5.out.alloc (.cells (intE.cs (k : Int)).toArray 3))
            have hK1 := hide ((Below.heap_alloc wr (.cells (intE.cs (k : Int)).toArray 3) D (lt_of_block hK.out)).trans hK.out)
            have hBW1 := hide (hBW.alloc hBW.size (.cells (intE.cs (k : Int)).toArray 3))
            have hfl : ((nodes k).filter fun v => !decide (v ∈ ordN nn xs)).length ≤ 300 := by
              have h1 := List.length_filter_le (fun v => !decide (v ∈ ordN nn xs)) (nodes k)
              rw [nodes_len] at h1
              omega
            have hsz : w.heap.size ≤ (wr.alloc (.cells (intE.cs (k : Int)).toArray 3)).heap.size := by have := hBW.size; simp; omega
            clear hO hrow Z5 hK hBW
            go_wp2_with (at_builtin; refine wpList_app tyInt rfl (.tmp 33) (.tmp 35) rfl rfl hO1.out rfl hr4.out rfl (by simp; omega) (by simpa using hsz) ?_)
            intro v' w9 hown hgr hne hnl
            have hrow2 := hide (hrow1.out.app hO1.out hgr (by decide))
            have Z52 := hide (Z51.out.app hO1.out hgr (by decide))
            have hK2 : Hid (w9.heap[D]? = some (.deferred (some []))) := hide ((hgr.block D (lt_of_block hK1.out) (fun e => by
              obtain ⟨cc, hcc⟩ := hO1.out.block D e.symm
              have h9 := hK1.out
              rw [hcc] at h9
              cases h9)).trans hK1.out)
            have hB2 := hide (Own.below hO1.out hBW1.out hgr (by simpa using hsz))
            rw [← hnk.out] at hown
            replace hown := hide hown
            clear hO1 hr4 hrow1 Z51 hK1 hBW1 hgr hne hnl hc k5 s5
            go_wp2
            refine ⟨?_, ?_⟩
            · first
                | exact ⟨k + 1, by omega, by first | omega | go_num, hown, hrow2, Z52, hK2, hB2.out⟩
                | ((repeat apply Exists.intro); exact ⟨⟨k + 1, by omega, by first | omega | go_num, hown, hrow2, Z52, hK2, hB2.out⟩, rfl⟩)
            · first | (simp [intOf, lenV]; omega) | (simp [intOf]; omega) | (simp [intOf]; done)
        · have hlt' : ¬ (k : Int) < (nn : Int) := by omega
          have hkn : k = nn := by omega
          have hfin : Hid (Own intE 3 w.heap.size wr u7 (leftN nn xs)) := hide (by have := hO.out; rw [hkn] at this; exact this)
          have hKf := hK
          clear hO hkn hrow Z5
          go_wp2
          refine ⟨by simp, .inl ⟨_, _, rfl, run_takeDeferred hKf.out, ?_⟩⟩
          refine ⟨_, results_tmp2 rfl _ _ _, ?_⟩
          exact ⟨_, by rw [v2.out]; rfl, by rw [v3.out]; exact Own.putObj hfin.out _ hKf.out rfl, hBW.trans (belowK_b (w := w) (Nat.le_refl _) wr D _ _ (by omega) hKf.out rfl rfl)⟩
end Go.Proofs.Ytepgpiolhiidiaa
