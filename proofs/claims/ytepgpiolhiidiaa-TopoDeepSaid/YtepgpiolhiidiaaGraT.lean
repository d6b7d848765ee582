/- graph.Starts. -/
import Derived.Test.YtepgpiolhiidiaaGraR
import Derived.Sort.CutIn
namespace Go.Proofs.Ytepgpiolhiidiaa
open Go.RowKit Go.Shelf
attribute [local go_sem] Oper.semAt_some

/-- one element of a row of integers of the call's own, stored anew -/
theorem Own.setInt {e : TypeId} {base : Nat} {w : World} {A : Option Addr} {n c : Nat} {xs : List Int} (h : Own intE e base w (.slice A n c) xs) {i : Nat} (hi : i < n) (x : Int) :
    ∃ g u, A = some ⟨g, 0, none⟩ ∧ base ≤ g ∧ g < w.heap.size ∧ w.cell? ⟨g, i, none⟩ = some u ∧ w.frozen? ⟨g, i, none⟩ = false ∧ Own intE e base (w.setCell ⟨g, i, none⟩ (.int .i64 x)) (.slice A n c) (xs.set i x) ∧ ∃ cur, w.heap[g]? = some (.cells cur e (0, 0)) := by
  obtain ⟨hl, h2⟩ := h
  rcases h2 with ⟨h1, h2⟩ | ⟨g, cap, cur, h1, hb, hg, hnc, hcm, hsz, hcur⟩
  · injection h1 with h3 h4 h5
    omega
  · injection h1 with h3 h4 h5
    subst h3 h5
    have hgs : g < w.heap.size := by
      rcases Nat.lt_or_ge g w.heap.size with hlt | hge
      · exact hlt
      · rw [Array.getElem?_eq_none hge] at hg
        cases hg
    have hic : i < cur.size := by rw [hsz]; show i < _ * 1; omega
    have hrow : intE.row (xs.set i x) = (intE.row xs).set i (.int .i64 x) := by
      have hr : ∀ l : List Int, intE.row l = l.map (Value.int .i64) := fun l => by
        induction l with
        | nil => rfl
        | cons y ys ih => rw [El.row_cons, ih]; rfl
      rw [hr, hr, List.map_set]
    refine ⟨g, cur[i], rfl, hb, hgs, ?_, ?_, ?_, cur, hg⟩
    · unfold World.cell?
      rw [hg]
      simp [hic]
    · unfold World.frozen?
      rw [hg]
      simp
    unfold Own
    rw [List.length_set]
    refine ⟨by rw [El.row_length, List.length_set], .inr ⟨g, c, cur.setIfInBounds i (.int .i64 x), by rw [h4], hb, ?_, by omega, hcm, by rw [Array.size_setIfInBounds]; exact hsz, ?_⟩⟩
    · show (w.heap.modify g _)[g]? = _
      rw [Array.getElem?_modify, if_pos rfl, hg]
      rfl
    · rw [Array.toList_setIfInBounds, List.take_set, hcur, hrow]
/-- a row by its places -/
def rowF (N : Nat) (f : Nat → Int) : List Int := (List.range N).map f
theorem rowF_len (N : Nat) (f : Nat → Int) : (rowF N f).length = N := by unfold rowF; simp
theorem rowF_get {N : Nat} {f : Nat → Int} {i : Nat} (h : i < N) : (rowF N f)[i]? = some (f i) := by unfold rowF; rw [List.getElem?_map, List.getElem?_range h]; rfl
theorem rowF_set {N : Nat} {f : Nat → Int} {i : Nat} {x : Int} : (rowF N f).set i x = rowF N fun j => if j = i then x else f j := by
  apply List.ext_getElem?
  intro j
  rw [List.getElem?_set, rowF_len]
  by_cases hj : j < N
  · rw [rowF_get hj, rowF_get hj]
    by_cases hij : i = j
    · subst hij; simp [hj]
    · rw [if_neg hij, if_neg (Ne.symm hij)]
  · rw [List.getElem?_eq_none (by rw [rowF_len]; omega), List.getElem?_eq_none (by rw [rowF_len]; omega)]
    split
    · rw [if_neg (by omega)]
    · rfl
theorem rowF_congr {N : Nat} {f g : Nat → Int} (h : ∀ i, i < N → f i = g i) : rowF N f = rowF N g := by
  unfold rowF
  exact List.map_congr_left fun i hi => h i (List.mem_range.1 hi)
theorem rowF_zero (N : Nat) : List.replicate N (0 : Int) = rowF N fun _ => 0 := by
  apply List.ext_getElem?
  intro j
  by_cases hj : j < N
  · rw [rowF_get hj, List.getElem?_replicate, if_pos hj]
  · rw [List.getElem?_eq_none (by simp; omega), List.getElem?_eq_none (by rw [rowF_len]; omega)]
/-- how many edges come from the node ahead -/
def cn (l : List (Int × Int × Int)) (j : Nat) : Int := ((l.countP fun x => decide (x.1 + 1 = (j : Int)) : Nat) : Int)
theorem cn_snoc (l : List (Int × Int × Int)) (x : Int × Int × Int) (i : Nat) (hi : x.1 + 1 = (i : Int)) (j : Nat) : cn (l ++ [x]) j = if j = i then cn l i + 1 else cn l j := by
  unfold cn
  rw [List.countP_append, List.countP_singleton]
  by_cases hj : j = i
  · subst hj; simp [hi]
  · rw [if_neg hj]
    have : ¬ x.1 + 1 = (j : Int) := by omega
    simp [this]
theorem cn_le (l : List (Int × Int × Int)) (j : Nat) : 0 ≤ cn l j ∧ cn l j ≤ l.length := by
  unfold cn
  have := List.countP_le_length (p := fun x : Int × Int × Int => decide (x.1 + 1 = (j : Int))) (l := l)
  omega
theorem cnt_step {xs : List (Int × Int × Int)} (h : ∀ x ∈ xs, 0 ≤ x.1) : cn xs 0 = 0 ∧ ∀ j, cn xs (j + 1) + (cntB xs j : Int) = (cntB xs (j + 1) : Int) := by
  constructor
  · unfold cn
    rw [List.countP_eq_zero.2 (fun x hx => by have := h x hx; simp; omega)]; rfl
  · intro j
    unfold cn cntB
    induction xs with
    | nil => rfl
    | cons x xs ih =>
      have ih' := ih (fun y hy => h y (List.mem_cons_of_mem _ hy))
      rw [List.countP_cons, List.countP_cons, List.countP_cons]
      by_cases h1 : x.1 = (j : Int)
      · have a1 : x.1 + 1 = ((j + 1 : Nat) : Int) := by omega
        have a2 : ¬ x.1 < (j : Int) := by omega
        have a3 : x.1 < ((j + 1 : Nat) : Int) := by omega
        simp only [a1, a2, a3, decide_true, decide_false, if_true, Bool.false_eq_true, if_false]
        omega
      · have a1 : ¬ x.1 + 1 = ((j + 1 : Nat) : Int) := by omega
        by_cases h2 : x.1 < (j : Int)
        · have a3 : x.1 < ((j + 1 : Nat) : Int) := by omega
          simp only [a1, h2, a3, decide_true, decide_false, if_true, Bool.false_eq_true, if_false]
          omega
        · have a3 : ¬ x.1 < ((j + 1 : Nat) : Int) := by omega
          simp only [a1, h2, a3, decide_false, Bool.false_eq_true, if_false]
          omega
theorem starts_rowF (xs : List (Int × Int × Int)) (N : Nat) : starts xs N = rowF N fun j => (cntB xs j : Int) := rfl
/-- the sums so far -/
def sumF (xs : List (Int × Int × Int)) (k : Nat) (j : Nat) : Int := if j ≤ k then (cntB xs j : Int) else cn xs j
theorem sumF_zero {xs : List (Int × Int × Int)} (h : ∀ x ∈ xs, 0 ≤ x.1) (j : Nat) : sumF xs 0 j = cn xs j := by
  unfold sumF
  split
  · rename_i hj
    obtain rfl : j = 0 := by omega
    rw [(cnt_step h).1]
    unfold cntB
    rw [List.countP_eq_zero.2 (fun x hx => by have := h x hx; simp; omega)]; rfl
  · rfl
theorem sumF_step {xs : List (Int × Int × Int)} (h : ∀ x ∈ xs, 0 ≤ x.1) (k j : Nat) : (if j = k + 1 then sumF xs k (k + 1) + sumF xs k k else sumF xs k j) = sumF xs (k + 1) j := by
  unfold sumF
  by_cases h1 : j = k + 1
  · subst h1
    rw [if_pos rfl, if_neg (by omega), if_pos (Nat.le_refl _), if_pos (Nat.le_refl _)]
    exact (cnt_step h).2 k
  · rw [if_neg h1]
    by_cases h2 : j ≤ k
    · rw [if_pos h2, if_pos (by omega)]
    · rw [if_neg h2, if_neg (by omega)]
theorem cntB_le (xs : List (Int × Int × Int)) (v : Nat) : cntB xs v ≤ xs.length := List.countP_le_length
set_option maxHeartbeats 1000000 in
theorem trueFun_any (a b c : Int) (w : World) :
    Calls Try.prog 59 #[.agg #[.int .i64 a, .int .i64 b, .int .i64 c]] w fun e w' => e = .returned (.bool true) ∧ Ext w w' := by
  go_enter Try.func59, Try.ntmps59
  go_wp2
  go_ret
  exact ⟨rfl, (Below.refl _ _).alloc (Nat.le_refl _) _⟩
theorem enter_true (args : Array Value) (w : World) : (callFunc 59 args).run Try.prog w = .ok (.enter 59 args) w := enters_of Try.func59 (by kernel_rfl) rfl args w
theorem zero_intT : ∀ i z, Try.prog.info? 3 = some i → i.zero = some z → z.cells.toList = intE.cs 0 := by
  intro i z hi hz
  obtain ⟨i', hi', hz', _, _⟩ := info_parts (P := Try.prog) (e := 3) (z := .int .i64 0) (size := 1) (bytes := 8) (by kernel_rfl)
  rw [hi'] at hi
  injection hi with hi
  subst hi
  rw [hz'] at hz
  injection hz with hz
  subst hz
  rfl
theorem wp_only {P : Program} {c : Code} {Q : Exit → Act → World → Prop} {a : Act} {w : World} (h : c.wp P (fun e a w => e = .normal ∧ Q .normal a w) a w) : c.wp P Q a w := wp_mono h (by rintro e a w ⟨rfl, h⟩; exact h)
def startL (n : Int) (xs : List (Int × Int × Int)) : List Int := if rightG n xs = true then starts xs (n.toNat + 1) else []
set_option maxRecDepth 100000 in
set_option maxHeartbeats 4000000 in
theorem starts_any (n : Int) (A : Option Addr) (m c : Nat) (xs : List (Int × Int × Int)) (w : World) (h : Rd edgeE w.heap.size w A xs) (hm : m = xs.length) (hl : m ≤ 1000000) :
    Calls Try.prog 38 #[.agg #[.int .i64 n, .slice A m c]] w fun e w' => ∃ v, e = .returned (.tuple #[v, .int .i64 (chkG n xs)]) ∧ Own intE 3 w.heap.size w' v (startL n xs) ∧ Ext w w' := by
  obtain ⟨y2, hy2⟩ : ∃ q, q = chkG n xs := ⟨_, rfl⟩
  obtain ⟨y3, hy3⟩ : ∃ q, q = startL n xs := ⟨_, rfl⟩
  rw [← hy2, ← hy3]
  replace hy2 := hide hy2
  replace hy3 := hide hy3
  replace h := hide h
  replace hm := hide hm
  refine (callsIn_wide (n := 10)).1 ?_
  refine callsIn_of_wp_marks Try.func38 rfl trivial ?_ rfl
  simp only [Try.ntmps38, List.size_toArray, List.length_cons, List.length_nil, Nat.reduceAdd, Nat.reduceSub, Array.replicate_succ, Array.replicate_zero, List.push_toArray, List.append_toArray, List.nil_append, List.cons_append]
  refine wpIn_wide.2 ?_
  go_upto_region 1 with fail
  obtain ⟨w0, hw0⟩ : ∃ w0, w0 = w.alloc (.cells #[.int .i64 n, .slice A m c] 24) := ⟨_, rfl⟩
  rw [← hw0]
  have hE0 : Ext w w0 := by rw [hw0]; exact (Below.refl _ _).alloc (Nat.le_refl _) _
  have X1 : BoxG w0 w.heap.size n A m c := by rw [hw0]; exact BoxN.new w _ _
  clear hw0
  obtain ⟨pg, hpg⟩ : ∃ b, b = w.heap.size := ⟨_, rfl⟩
  rw [← hpg] at X1 ⊢
  clear hpg
  have k10 := X1.cell 0 (v := .int .i64 n) rfl
  have k11 := X1.cell 1 (v := .slice A m c) rfl
  have s1 := X1.lt
  go_wp2_with fail
  refine (check_any n A m c xs _ (h.out.ext hE0) hm.out hl).mono ?_
  rintro e w1 ⟨rfl, hE⟩
  replace X1 := X1.ext hE
  have hB := hE0.trans (hE.mono hE0.size)
  clear k10 k11 s1 hE hE0
  cases hr : rightG n xs with
  | false =>
    rw [chkG_no hr]
    have v2 : Hid (y2 = 150) := hide (by rw [hy2.out, chkG_no hr])
    have v3 : Hid (y3 = []) := hide (by rw [hy3.out]; unfold startL; rw [if_neg (by rw [hr]; decide)])
    replace hr := hide hr
    go_wp2
    refine ⟨_, results_tmp2 rfl _ _ _, ?_⟩
    exact ⟨_, by rw [v2.out]; rfl, by rw [v3.out]; exact Own.nil_, hB⟩
  | true =>
    rw [chkG_yes hr]
    have v2 : Hid (y2 = 0) := hide (by rw [hy2.out, chkG_yes hr])
    obtain ⟨g1, g2, g3, g4, g5⟩ := (rightG_iff n xs).1 hr
    obtain ⟨nn, rfl⟩ : ∃ nn : Nat, n = nn := ⟨n.toNat, by omega⟩
    have v3 : Hid (y3 = starts xs (nn + 1)) := hide (by rw [hy3.out]; unfold startL; rw [if_pos hr]; simp)
    have hfr : Hid (∀ x ∈ xs, 0 ≤ x.1 ∧ x.1 < nn) := hide (fun x hx => by have := (rightE_iff _ x).1 (g4 x hx); omega)
    replace hr := hide hr
    clear g1 g3 g4 g5
    have k10 := X1.cell 0 (v := .int .i64 (nn : Int)) rfl
    have k11 := X1.cell 1 (v := .slice A m c) rfl
    have s1 := X1.lt
    have e1 : IntKind.i64.wrap ((nn : Int) + 1) = (nn : Int) + 1 := IntWalk.i64_in _ (by omega)
    go_wp2_with (at_make; refine wpList_make (base := w1.heap.size) tyInt rfl _ _ rfl (n := nn + 1) zero_intT rfl (by simp) rfl (by simp) (by omega) (Nat.le_refl _) ?_)
    intro w2 hown hg
    have hE2 := grown_none hg
    replace hown := hide hown
    clear hg
    have hrB := hE2.size
    have hrB2 : w1.heap.size < w2.heap.size := by
      obtain ⟨c2, hc2⟩ := hown.out.block w1.heap.size rfl
      exact (Array.getElem?_eq_some_iff.1 hc2).1
    obtain ⟨rB, hrBe⟩ : ∃ q, q = w1.heap.size := ⟨_, rfl⟩
    have hown1 : Hid (Own intE 3 w1.heap.size w2 (.slice (some ⟨rB, 0, none⟩) (nn + 1) (nn + 1)) (rowF (nn + 1) (cn []))) := hide (by rw [hrBe]; have := hown.out; rw [rowF_zero] at this; exact this)
    rw [← hrBe] at hrB2 ⊢
    have hrle : w1.heap.size ≤ rB := Nat.le_of_eq hrBe.symm
    clear hown hrBe hrB
    go_upto_region 5 with fail
    obtain ⟨w3, hw3⟩ : ∃ q, q = w2.alloc (.cells #[.slice (some ⟨rB, 0, none⟩) (nn + 1) (nn + 1)] 28) := ⟨_, rfl⟩
    rw [← hw3]
    have hE3 : Ext w2 w3 := by rw [hw3]; exact (Below.refl _ _).alloc (Nat.le_refl _) _
    have X5 : Box w3 w2.heap.size 28 (.slice (some ⟨rB, 0, none⟩) (nn + 1) (nn + 1)) := by rw [hw3]; exact Box.new _ _ _
    replace hown1 := hide (hown1.out.ext hE3)
    clear hw3
    have hE13 : Ext w1 w3 := hE2.trans (hE3.mono hE2.size)
    obtain ⟨oB, hoB⟩ : ∃ q, q = w2.heap.size := ⟨_, rfl⟩
    rw [← hoB] at X5 ⊢
    have hro : rB < oB := by omega
    clear hoB hE2 hE3 hrB2
    replace X1 := X1.ext hE13
    clear k10 k11 s1
    have k10 := X1.cell 0 (v := .int .i64 (nn : Int)) rfl
    have k11 := X1.cell 1 (v := .slice A m c) rfl
    have s1 := X1.lt
    go_wp2_with fail
    refine (edges_any nn A m c 59 #[] _).mono ?_
    rintro e w4 ⟨rfl, hw4⟩
    obtain ⟨hE4, q1, q2⟩ := edges_new nn A m c _ _ _ _ hw4
    have hF4 : BoxN w4 (w3.heap.size + 1) 51 #[.func (.func 59) #[] #[]] := by
      rw [hw4]
      have := BoxN.new (w3.alloc (.cells #[.int .i64 (nn : Int), .slice A m c] 24)) 51 #[.func (.func 59) #[] #[]]
      rw [World.size_alloc] at this
      exact this
    have s5 := X5.lt
    replace X5 := X5.ext hE4
    replace X1 := X1.ext hE4
    replace hown1 := hide (hown1.out.ext hE4)
    have hE14 := hE13.trans (hE4.mono hE13.size)
    obtain ⟨gE, hgE⟩ : ∃ q, q = w3.heap.size := ⟨_, rfl⟩
    rw [← hgE] at q1 q2 hF4 s5 ⊢
    obtain ⟨fE, hfE⟩ : ∃ q, q = gE + 1 := ⟨_, rfl⟩
    rw [← hfE] at q2 hF4 ⊢
    have hof : oB < fE := by omega
    clear hw4 hE4 hE13 hgE hfE k10 k11 s1
    go_wp2_with fail
    refine (wpIn_wide (n := 10)).1 ?_
    have hg14 := hE14.size
    have hR1 := (h.out.ext hB).below hE14
    have hH : HoldP 59 #[] xs (fun _ => true) w1 := ⟨enter_true, fun a b c W _ _ => trueFun_any a b c W⟩
    have hfl1 := hF4.lt
    have hwB : w1.heap.size ≤ pg ∨ pg < w1.heap.size := by omega
    refine rangeS rfl (by decide) (gf := 65) (lb := #[.pointer (some ⟨gE, 0, none⟩), .pointer (some ⟨fE, 0, none⟩)]) rfl trivial (enters_of Try.func65 (by kernel_rfl) rfl)
      (edges_seq 9 gE fE w1.heap.size A m c xs hm.out hl 59 #[] (fun _ => true) enter_true w4 hg14 q1 q2 hR1) (fun h k => h.trans k) (fun W l o o' h1 _ _ _ => KpE.turn hg14 hfl1 W l o' h1) (fun h k => h.trans k) (fun h k => h.trans k) (fun s x _ _ _ hs _ _ => hs) (Below.refl _ _) (fun _ => rfl)
      (fun (s : StE) W => (Box W oB 28 (.slice (some ⟨rB, 0, none⟩) (nn + 1) (nn + 1)) ∧ Own intE 3 w1.heap.size W (.slice (some ⟨rB, 0, none⟩) (nn + 1) (nn + 1)) (rowF (nn + 1) (cn s.2)) ∧ BoxG W pg nn A m c ∧ BoxN W fE 51 #[.func (.func 59) #[] #[]]) ∧ Below w1.heap.size w1 W)
      (fun _ _ _ => False)
      (OwnFrom.and (Own.from (fun sx A B row hs hg hr => ⟨hs.1.grown hg (noncell_ne hs.1 hr), hs.2.1.noncell hg hr, hs.2.2.1.grown hg (noncell_ne hs.2.2.1 hr), hs.2.2.2.grown hg (noncell_ne hs.2.2.2 hr)⟩) _) (ownFrom_below (Nat.le_refl _) hg14))
      (fun _ _ _ _ _ hs _ _ => hs)
      ⟨⟨X5, hown1.out, X1, hF4⟩, hE14⟩
      (fun R hR => holdE_of hH (Nat.le_refl _) (fun s A h => h.2) (fun k k' pre A C h hE => ⟨⟨h.1.1.ext hE, h.1.2.1.ext hE, h.1.2.2.1.ext hE, h.1.2.2.2.ext hE⟩, h.2.trans (hE.mono h.2.size)⟩) hR)
      (fun (x : Int × Int × Int) b W => ∃ p5, BoxN W p5 50 #[.int .i64 x.1, .int .i64 x.2.1, .int .i64 x.2.2] ∧
        b = { tmps := #[.agg #[.int .i64 (nn : Int), .slice A m c], .pointer (some ⟨pg, 0, none⟩), .slice none 0 0, .int .i64 0, .int .i64 0, .pointer (some ⟨oB, 0, none⟩), .pointer (some ⟨p5, 0, none⟩), undef, .agg #[.int .i64 (nn : Int), .slice A m c], .int .i64 0, .int .i64 0, .bool false, undef, .pointer (some ⟨pg, 0, none⟩), .int .i64 (nn : Int), .int .i64 ((nn : Int) + 1), .slice (some ⟨rB, 0, none⟩) (nn + 1) (nn + 1), .agg #[.int .i64 (nn : Int), .slice A m c], .func (.func 65) #[] #[.pointer (some ⟨gE, 0, none⟩), .pointer (some ⟨fE, 0, none⟩)], .agg #[.int .i64 x.1, .int .i64 x.2.1, .int .i64 x.2.2], undef, undef, undef, undef, undef, undef, undef, undef, undef, undef, undef, undef, undef, undef, undef, undef, undef, undef, undef, undef, undef, undef, undef, undef, undef, undef], defers := [] })
      (fun x b A B row h hg hr => by obtain ⟨p5, h1, h2⟩ := h; exact ⟨p5, h1.grown hg (noncell_ne h1 (fun r e => (hr r e).2)), h2⟩)
      (fun A B hA hg => KpE.ext (grown_none hg) (by omega)) ?assign ?body ?done ?stop
    case assign =>
      intro l x W K hK
      dsimp only [encE]
      gi_wp2
      exact hK _ _ (World.grownBy_alloc W _ none) ⟨W.heap.size, BoxN.new _ _ _, rfl⟩
    case body =>
      rintro l ⟨k, pre⟩ ⟨p1, p2, p3⟩ W b ⟨⟨Z5, hrow, Z1, ZF⟩, hBW⟩ hX ⟨p5, X6, rfl⟩
      simp only at hrow X6 ⊢
      have hmem : (p1, p2, p3) ∈ xs := by
        have h1 : (p1, p2, p3) ∈ xs.filter fun _ => true := hX.subset (by simp)
        exact (List.mem_filter.1 h1).1
      have hpl : pre.length ≤ 1000000 := by
        have h1 := hX.length_le
        have h2 := List.length_filter_le (fun _ : Int × Int × Int => true) xs
        have h3 := hm.out
        simp only [List.length_append, List.length_singleton] at h1
        omega
      have hfp := hfr.out _ hmem
      simp only at hfp
      obtain ⟨i, hi⟩ : ∃ i : Nat, p1 + 1 = (i : Int) := ⟨(p1 + 1).toNat, by omega⟩
      have hin : i < nn + 1 := by omega
      have hin' : (i : Int) < (nn : Int) + 1 := by omega
      have hin0 : (0 : Int) ≤ (i : Int) := by omega
      have ew : IntKind.i64.wrap (p1 + 1) = (i : Int) := by rw [IntWalk.i64_in _ (by omega), hi]
      have hcb := cn_le pre i
      obtain ⟨y, hy⟩ : ∃ y, y = cn pre i := ⟨_, rfl⟩
      rw [← hy] at hcb
      have ew2 : IntKind.i64.wrap (y + 1) = y + 1 := IntWalk.i64_in _ (by omega)
      obtain ⟨Ar, cr, he, hrd, -, -⟩ := hrow.rd
      injection he with he1 he2 he3
      subst he1
      have hcell : W.cell? ⟨rB, i, none⟩ = some (.int .i64 y) := by
        obtain ⟨b0, o0, hb0, ra⟩ := hrd.at_ (i := i) (by rw [rowF_len]; exact hin)
        injection hb0 with hb1
        injection hb1 with hb2 hb3
        subst hb2 hb3
        have := ra.int (i := i) (p := y) (by rw [rowF_get hin, hy])
        simpa using this
      clear hrd he2 he3
      obtain ⟨g, u, hg0, hgb, hgs, hg3, hg4, hS, cur, hcur⟩ := hrow.setInt hin (y + 1)
      injection hg0 with hg1
      injection hg1 with hg2
      subst hg2
      have hS2 : Own intE 3 w1.heap.size (W.setCell ⟨rB, i, none⟩ (.int .i64 (y + 1))) (.slice (some ⟨rB, 0, none⟩) (nn + 1) (nn + 1)) (rowF (nn + 1) (cn (pre ++ [(p1, p2, p3)]))) := by
        rw [rowF_set] at hS
        rw [rowF_congr (g := fun j => if j = i then y + 1 else cn pre j)]
        · exact hS
        · intro j _
          rw [cn_snoc pre (p1, p2, p3) i hi j, hy]
      have d1 : rB ≠ oB := by omega
      have d2 : rB ≠ fE := by omega
      have d3 : pg ≠ rB := fun e => by
        subst e
        have h9 := Z1.symm.trans hcur
        injection h9 with h9
        injection h9 with _ h9
        cases h9
      have Z5' := Z5.far (p := ⟨rB, i, none⟩) (Ne.symm d1) (.int .i64 (y + 1))
      have Z1' := Z1.far (p := ⟨rB, i, none⟩) d3 (.int .i64 (y + 1))
      have ZF' := ZF.far (p := ⟨rB, i, none⟩) (Ne.symm d2) (.int .i64 (y + 1))
      have hB' := hBW.setCell (p := ⟨rB, i, none⟩) hrle (.int .i64 (y + 1))
      have hK' : KpE w1.heap.size fE W (W.setCell ⟨rB, i, none⟩ (.int .i64 (y + 1))) := ⟨(Below.refl _ _).setCell (p := ⟨rB, i, none⟩) hrle _, fun o ho => (Below.heap_setCell W ⟨rB, i, none⟩ _ fE (Ne.symm d2)).trans ho⟩
      have k5 := Z5.cell
      have s5' := Z5.lt
      have k60 := X6.cell 0 (v := .int .i64 p1) rfl
      have s6 := X6.lt
      replace hS2 := hide hS2
      replace Z5' := hide Z5'
      replace Z1' := hide Z1'
      replace ZF' := hide ZF'
      replace hB' := hide hB'
      replace hK' := hide hK'
      clear hS hg3 hi hy hcur hmem hfp hX hrow
      gi_wp2
      exact ⟨(KeepsOthers.setCell _ _ _).from _, hK'.out, ⟨Z5'.out, hS2.out, Z1'.out, ZF'.out⟩, hB'.out⟩
    case done =>
      rintro D s W hD rfl ⟨⟨Z5, hrow, Z1, ZF⟩, hBW⟩ hK
      have hnn : ∀ x ∈ xs, 0 ≤ x.1 := fun x hx => (hfr.out x hx).1
      have hrow0 : Hid (Own intE 3 w1.heap.size W (.slice (some ⟨rB, 0, none⟩) (nn + 1) (nn + 1)) (rowF (nn + 1) (sumF xs 0))) := hide (by
        rw [rowF_congr (g := cn xs) (fun j _ => sumF_zero hnn j)]
        have hft : xs.filter (fun _ => true) = xs := List.filter_eq_self.2 (fun _ _ => rfl)
        simp only [hft] at hrow
        exact hrow)
      have k10 := Z1.cell 0 (v := .int .i64 (nn : Int)) rfl
      have k11 := Z1.cell 1 (v := .slice A m c) rfl
      have s1 := Z1.lt
      have hml := hm.out
      clear hrow Z1 ZF X5 X1 hown1 hF4 hE14 q1 q2 hR1 hH
      replace Z5 := hide Z5
      have hrD : rB ≠ D := by omega
      have hoD : oB ≠ D := by omega
      go_wp2
      go_loopw [30] (fun i wr => ∃ k : Nat, k ≤ nn ∧ i = .int .i64 k ∧ Hid (Own intE 3 w1.heap.size wr (.slice (some ⟨rB, 0, none⟩) (nn + 1) (nn + 1)) (rowF (nn + 1) (sumF xs k))) ∧ Hid (Box wr oB 28 (.slice (some ⟨rB, 0, none⟩) (nn + 1) (nn + 1))) ∧ Hid (wr.heap[D]? = some (.deferred (some []))) ∧ Below w1.heap.size w1 wr) (fun i _ => nn - (intOf i).toNat)
      case atStart => exact ⟨0, Nat.zero_le _, rfl, hrow0, Z5, hide hK, hBW⟩
      case round =>
        clear hrow0 Z5 hK hBW k10 k11 s1
        obtain ⟨k, hk, rfl, hrow, Z5, hK, hBW⟩ := hrel
        have k5 := Z5.out.cell
        have s5' := Z5.out.lt
        by_cases hlt : k < nn
        · have hlt' : (k : Int) < (nn : Int) := by omega
          have j0 : (0 : Int) ≤ (k : Int) + 1 := by omega
          have j1 : (k : Int) + 1 < (nn : Int) + 1 := by omega
          have j2 : ((k : Int) + 1).toNat = k + 1 := by omega
          have j3 : (k : Int) < (nn : Int) + 1 := by omega
          have j4 : IntKind.i64.wrap ((k : Int) + 1) = (k : Int) + 1 := IntWalk.i64_in _ (by omega)
          have b1 : sumF xs k (k + 1) = cn xs (k + 1) := by unfold sumF; rw [if_neg (by omega)]
          have b2 : sumF xs k k = (cntB xs k : Int) := by unfold sumF; rw [if_pos (Nat.le_refl _)]
          have c1 := cn_le xs (k + 1)
          have c2 := cntB_le xs k
          obtain ⟨y, hy⟩ : ∃ y, y = sumF xs k (k + 1) := ⟨_, rfl⟩
          obtain ⟨z, hz⟩ : ∃ y, y = sumF xs k k := ⟨_, rfl⟩
          have ew : IntKind.i64.wrap (y + z) = y + z := IntWalk.i64_in _ (by rw [hy, hz, b1, b2]; omega)
          obtain ⟨Ar, cr, he, hrd, -, -⟩ := hrow.out.rd
          injection he with he1 he2 he3
          subst he1
          have hcells : wr.cell? ⟨rB, k + 1, none⟩ = some (.int .i64 y) ∧ wr.cell? ⟨rB, k, none⟩ = some (.int .i64 z) := by
            obtain ⟨b0, o0, hb0, ra⟩ := hrd.at_ (i := k) (by rw [rowF_len]; omega)
            injection hb0 with hb1
            injection hb1 with hb2 hb3
            subst hb2 hb3
            have g1 := ra.int (i := k + 1) (p := y) (by rw [rowF_get (by omega), hy])
            have g2 := ra.int (i := k) (p := z) (by rw [rowF_get (by omega), hz])
            exact ⟨by simpa using g1, by simpa using g2⟩
          obtain ⟨hc1, hc2⟩ := hcells
          obtain ⟨g, u, hg0, hgb, hgs, hg3, hg4, hS, cur, hcur⟩ := hrow.out.setInt (i := k + 1) (by omega) (y + z)
          injection hg0 with hg1
          injection hg1 with hg2
          subst hg2
          have hS2 : Hid (Own intE 3 w1.heap.size (wr.drew.setCell ⟨rB, k + 1, none⟩ (.int .i64 (y + z))) (.slice (some ⟨rB, 0, none⟩) (nn + 1) (nn + 1)) (rowF (nn + 1) (sumF xs (k + 1)))) := hide (by
            rw [rowF_set] at hS
            rw [rowF_congr (g := fun j => if j = k + 1 then y + z else sumF xs k j)]
            · exact hS.drew
            · intro j _
              rw [← sumF_step hnn k j, hy, hz])
          have d1 : rB ≠ oB := by omega
          have Z5' := hide (Z5.out.drew.far (p := ⟨rB, k + 1, none⟩) (Ne.symm d1) (.int .i64 (y + z)))
          have hK' : Hid ((wr.drew.setCell ⟨rB, k + 1, none⟩ (.int .i64 (y + z))).heap[D]? = some (.deferred (some []))) := hide ((Below.heap_setCell wr.drew ⟨rB, k + 1, none⟩ _ D (Ne.symm hrD)).trans hK.out)
          have hB' := hide (hBW.drew.setCell (p := ⟨rB, k + 1, none⟩) hrle (.int .i64 (y + z)))
          clear hS hcur hg3 b1 b2 c1 c2 hrd he2 he3 hy hz
          go_upto_region 11 with fail
          have T : Ext wr wr.drew := (Below.refl _ _).drew
          refine wp_only ?_
          refine wp_region_mixE (fun W => Below wr.heap.size wr W) 11 [(0, true), (1, true), (2, true), (3, true), (4, true), (5, true), (6, true), (7, true), (8, true), (9, true), (10, true), (11, false)] (by kernel_rfl) (by kernel_rfl) (by kernel_rfl) (by kernel_rfl) (by kernel_rfl) (by kernel_rfl) (fun _ _ d _ _ h => by cases h.1) ?_ ?_
          · exact T
          iterate 11
            apply mixE_q rfl rfl
            · intro W hW
              have hcW := (bcell hW).1
              go_simp
              try exact rfl
            simp only [Act.put, List.setIfInBounds_toArray, List.set_cons_zero, List.set_cons_succ]
          obtain ⟨wl, hwh⟩ : ∃ x, x = wr.drew := ⟨_, rfl⟩
          rw [← hwh] at T hS2 Z5' hK' hB' ⊢
          have hc1' : wl.cell? ⟨rB, k + 1, none⟩ = some (.int .i64 y) := by rw [hwh]; exact hc1
          have hg4' : wl.frozen? ⟨rB, k + 1, none⟩ = false := by rw [hwh]; exact hg4
          have hgs' : rB < wl.heap.size := by rw [hwh]; exact hgs
          clear hwh hc1 hc2 hg4 hgs k5 s5'
          refine mixE_w rfl rfl (fun K hK2 => ?_)
          go_simp
          refine hK2 _ _ (fun h => absurd rfl h) ?_
          clear hK2 K
          try simp only [Act.put, List.setIfInBounds_toArray, List.set_cons_zero, List.set_cons_succ]
          refine mixE_nil ⟨rfl, ?_⟩
          go_wp2
          refine ⟨⟨k + 1, by omega, by first | omega | go_num, hS2, hB'.out⟩, ?_⟩
          simp [intOf]; omega
        · have hlt' : ¬ (k : Int) < (nn : Int) := by omega
          have hkn : k = nn := by omega
          have hfin : Hid (Own intE 3 w1.heap.size wr (.slice (some ⟨rB, 0, none⟩) (nn + 1) (nn + 1)) (starts xs (nn + 1))) := hide (by
            rw [starts_rowF, rowF_congr (g := sumF xs k)]
            · exact hrow.out
            · intro j hj
              unfold sumF
              rw [if_pos (by omega)])
          clear hkn
          go_wp2
          refine ⟨by simp, .inl ⟨_, _, rfl, run_takeDeferred hK.out, ?_⟩⟩
          refine ⟨_, results_tmp2 rfl _ _ _, ?_⟩
          exact ⟨_, by rw [v2.out]; rfl, by rw [v3.out]; exact (Own.putObj hfin.out _ hK.out rfl).base_le hB.size, (hB.trans (hBW.mono hB.size)).trans (belowK_b (w := w1) hB.size wr D _ _ (by omega) hK.out rfl rfl)⟩
    case stop =>
      rintro D c pre W _ _ h _
      exact h.elim
end Go.Proofs.Ytepgpiolhiidiaa
