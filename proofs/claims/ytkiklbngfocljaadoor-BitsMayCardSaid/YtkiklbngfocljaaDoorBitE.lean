/- Sets of numbers: List, Next. -/
import Derived.Test.YtkiklbngfocljaaDoorBitC
import Derived.Test.YtkiklbngfocljaaDoorBitD
namespace Go.Proofs.YtkiklbngfocljaaDoor
open Go.RowKit Go.Shelf
attribute [local go_sem] Oper.semAt_some

def natsI (l : List Nat) : List Int := l.map Int.ofNat
theorem natsI_row (l : List Nat) : intE.row (natsI l) = l.map fun (x : Nat) => Value.int .i64 (x : Int) := by rw [intE_row]; unfold natsI; rw [List.map_map]; rfl
theorem numbers_any (A : Option Addr) (n c : Nat) (w : World) :
    Calls Tryd.prog 40 #[.slice A n c] w fun e w' => e = .returned (.func (.func 56) #[] #[.pointer (some ⟨w.heap.size, 0, none⟩)]) ∧ w' = w.alloc (.cells #[.slice A n c] 22) := by
  go_enter Tryd.func40, Tryd.ntmps40
  go_wp2
  go_ret
  exact ⟨rfl, rfl⟩
theorem infoInt : (Tryd.prog.info? 3).map (fun i => (i.zero, i.size, i.bytes)) = some (some (.int .i64 0), 1, 8) := by kernel_rfl
theorem numsAt_length : ∀ (i : Nat) (ws : List Nat), (numsAt i ws).length ≤ 64 * ws.length
  | _, [] => Nat.le_refl _
  | i, w :: ws => by
    have h := numsAt_length (i + 1) ws
    have h2 : (bitsOf w).length ≤ 64 := by unfold bitsOf; exact Nat.le_trans (List.length_filter_le _ _) (by simp)
    rw [numsAt, List.length_append, List.length_map, List.length_cons]
    omega
theorem nums_length (ws : List Nat) : (nums ws).length ≤ 64 * ws.length := numsAt_length 0 ws
set_option maxRecDepth 100000 in
set_option maxHeartbeats 2000000 in
theorem appendSeq_any (Bn : Nat) (A : Option Addr) (n c : Nat) (ws : List Nat) (w : World) (hf : Fit ws) (hn : n = ws.length) (hl : n ≤ 1000) (hBn : Bn < w.heap.size)
    (hc : w.cell? ⟨Bn, 0, none⟩ = some (.slice A n c)) (hr : Rd wE w.heap.size w A ws) (hL : LaidT w) :
    Calls Tryd.prog 58 #[.slice none 0 0, .func (.func 56) #[] #[.pointer (some ⟨Bn, 0, none⟩)]] w fun e w' => ∃ v, e = .returned v ∧ Own intE 3 w.heap.size w' v (natsI (nums ws)) ∧ Ext w w' := by
  refine (callsIn_wide (n := 10)).1 ?_
  obtain ⟨i0, hi, hz0, hz1, hz2⟩ := info_parts infoInt
  have hN := nums_length ws
  rw [← hn] at hN
  refine callsIn_of_wp_marks Tryd.func58 rfl trivial ?_ rfl
  simp only [Tryd.ntmps58, List.size_toArray, List.length_cons, List.length_nil, Nat.reduceAdd, Nat.reduceSub, Array.replicate_succ, Array.replicate_zero, List.push_toArray, List.append_toArray, List.nil_append, List.cons_append]
  gi_wp2
  have bO := Boxed.new w 25 (.slice none 0 0)
  have hB0 : Below w.heap.size w (w.alloc (.cells #[.slice none 0 0] 25)) := (Below.refl _ w).alloc (Nat.le_refl _) _
  have hw1 := hL.2
  refine wpIn_rangeFunc_ownG rfl (by decide) (gf := 56) (lb := #[.pointer (some ⟨Bn, 0, none⟩)]) rfl trivial (enters_of Tryd.func56 (by kernel_rfl) rfl)
    (numbers_stops 9 Bn w.heap.size A n c ws _ hf hn hl hw1 (by simp) (by simp; omega) ((hB0.cell (p := ⟨Bn, 0, none⟩) hBn).trans hc) (hr.below hB0) (hL.ext hB0)) belowK_t (belowK_b (by simp)) (Below.refl _ _) (fun _ => rfl)
    (fun (pre : List Nat) W => (∃ v, Boxed W w.heap.size 25 v ∧ W.ownsRow w.heap.size 3 1 v pre.length (pre.map fun (x : Nat) => Value.int .i64 (x : Int)) ∧ True) ∧ Below w.heap.size w W)
    (fun _ _ _ => False)
    (OwnFrom.and (Own.from (holdsRow_own w.heap.size w.heap.size 25 3 1 (fun (pre : List Nat) => pre.length) (fun (pre : List Nat) => pre.map fun (x : Nat) => Value.int .i64 (x : Int)) (fun _ _ => True)) _) (ownFrom_below (Nat.le_refl _) (by simp)))
    (fun _ _ _ _ _ hs _ _ => hs)
    ⟨⟨_, bO, World.ownsRow_nil _ _ _ _, trivial⟩, hB0⟩
    (fun (x : Nat) => { tmps := #[.slice none 0 0, .func (.func 56) #[] #[.pointer (some ⟨Bn, 0, none⟩)], .pointer (some ⟨w.heap.size, 0, none⟩), undef, .slice none 0 0, .int .i64 (x : Int), .func (.func 56) #[] #[.pointer (some ⟨Bn, 0, none⟩)], .int .i64 (x : Int), undef, undef, undef, undef, undef], defers := [] }) ?assign ?body ?done ?stop
  case assign =>
    intro l x W K hK
    gi_wp2
    exact hK
  case body =>
    rintro l pre x W ⟨⟨v, hv, hrow, -⟩, hB⟩ hlt
    have hc := hv.cell
    gi_wp2_with (gi_at_builtin; refine wpListIn_append_own _ rfl _ _ 25 rfl w.heap.size 3 i0 (.int .i64 0) 1 8 Tryd.underlying25 hi hz0 hz1 hz2 rfl (by decide) _ _ _ rfl (hrow.alloc _) ⟨W.heap.size, 0, none⟩ 1 1 [.int .i64 (x : Int)] rfl rfl (cell_one_new _ _ _) (by simp [Value.oneCell']) (by unfold maxLen; omega) (by omega) (by have := hB.size; simp; omega) ?_; intro v' w1 hown' hgrow _; obtain ⟨g', cap', rfl⟩ := ownsRow_succ hown'; obtain ⟨hv1, hv2, hr2, hk2, hb2⟩ := hv.appended (by decide) hrow hB.size (Nat.le_refl _) hown' hgrow; have hc1 := hv1.cell; have hf1 := hv1.frozen)
    exact ⟨hk2.from _, hb2, ⟨_, hv2, by simpa using hr2, trivial⟩, hB.trans hb2⟩
  case done =>
    rintro D ys W hD rfl ⟨⟨v, hv, hrow, -⟩, hB⟩ hK
    have hc := hv.cell
    gi_wp2
    refine ⟨by simp, .inl ⟨_, _, rfl, run_takeDeferred hK, ?_⟩⟩
    refine ⟨_, results_tmp rfl _ _ _, v, rfl, ?_, hB.trans (belowK_b (w := w) (Nat.le_refl _) W D _ _ (by simp at hD; omega) hK rfl rfl)⟩
    unfold Own
    rw [natsI_row]
    unfold natsI
    rw [List.length_map]
    exact ownsRow_putObj hrow _ hK rfl
  case stop =>
    rintro D c pre W _ _ h _
    exact h.elim
theorem ofW_le (ws : List Nat) : (ofW ws).length ≤ ws.length := by
  unfold ofW
  split
  · exact Nat.le_refl _
  · exact Nat.zero_le _
theorem ofW_fit {ws : List Nat} (h : Fit ws) : Fit (ofW ws) := by
  unfold ofW
  split
  · exact h
  · intro x hx; cases hx
theorem list_any (A : Option Addr) (n c : Nat) (ws : List Nat) (w : World) (h : Rd wE w.heap.size w A ws) (hn : n = ws.length) (hl : n ≤ 1000) (hf : Fit ws) (hL : LaidT w) :
    Calls Tryd.prog 26 #[.agg #[.slice A n c]] w fun e w' => ∃ v, e = .returned v ∧ Own intE 3 w.heap.size w' v (natsI (nums (ofW ws))) ∧ Ext w w' := by
  replace h := hide h
  replace hn := hide hn
  replace hL := hide hL
  go_enter Tryd.func26, Tryd.ntmps26
  go_upto_region 1 with fail
  obtain ⟨w0, hw0⟩ : ∃ w0, w0 = w.alloc (.cells #[.slice A n c] 24) := ⟨_, rfl⟩
  rw [← hw0]
  have hE0 : Ext w w0 := by rw [hw0]; exact (Below.refl _ _).alloc (Nat.le_refl _) _
  have hb0 : w.heap.size < w0.heap.size := by rw [hw0]; simp
  have hc0 : w0.cell? ⟨w.heap.size, 0, none⟩ = some (.slice A n c) := by rw [hw0]; simp [World.cell?_alloc_new]
  clear hw0
  go_wp2_with fail
  refine (of_any A n c ws _ (h.out.ext hE0) hn.out (by omega) hf).mono ?_
  rintro e w1 ⟨A1, c1, rfl, -, hr, hE1⟩
  have hB := hE0.trans (hE1.mono hE0.size)
  have hl1 : (ofW ws).length ≤ 1000 := Nat.le_trans (ofW_le ws) (by rw [← hn.out]; exact hl)
  obtain ⟨n1, hn1⟩ : ∃ n1, n1 = (ofW ws).length := ⟨_, rfl⟩
  rw [← hn1] at hl1 ⊢
  replace hn1 := hide hn1
  replace hr := hide hr
  clear hc0 hb0 hE1
  go_wp2_with fail
  refine (numbers_any A1 n1 c1 _).mono ?_
  rintro e w2 ⟨rfl, hw2⟩
  have hE2 : Ext w1 w2 := by rw [hw2]; exact (Below.refl _ _).alloc (Nat.le_refl _) _
  have hlt : w1.heap.size < w2.heap.size := by rw [hw2]; simp
  have hc2 : Hid (w2.cell? ⟨w1.heap.size, 0, none⟩ = some (.slice A1 n1 c1)) := hide (by rw [hw2]; simp [World.cell?_alloc_new])
  clear hw2
  have hB2 := hB.trans (hE2.mono hB.size)
  go_wp2_with fail
  have hs := appendSeq_any w1.heap.size A1 n1 c1 (ofW ws) w2 (ofW_fit hf) hn1.out hl1 hlt hc2.out (hr.out.ext hE2) (hL.out.ext hB2)
  refine Calls.mono (R := fun e w' => ∃ v, e = .returned v ∧ Own intE 3 w2.heap.size w' v (natsI (nums (ofW ws))) ∧ Ext w2 w') ?_ ?_
  · replace hs := hide hs
    go_enter Tryd.func48, Tryd.ntmps48
    go_wp2_with fail
    refine hs.out.mono ?_
    rintro e w3 ⟨v, rfl, hO, hE⟩
    obtain ⟨A3, c3, rfl, -, -, -⟩ := hO.rd
    replace hO := hide hO
    go_wp2
    go_ret
    exact ⟨_, rfl, hO.out, hE⟩
  · rintro e w3 ⟨v, rfl, hO, hE⟩
    clear hs
    obtain ⟨A3, c3, rfl, -, -, -⟩ := hO.rd
    replace hO := hide hO
    go_wp2
    go_ret
    exact ⟨_, rfl, hO.out.base_le hB2.size, hB2.trans (hE.mono hB2.size)⟩
theorem box_ne {A : World} {row : Option Nat} {b : Nat} {t : TypeId} {v : Value} (h : Box A b t v) (hr : ∀ r, row = some r → ∃ o : Obj, A.heap[r]? = some o ∧ o.isCells = false) : some b ≠ row := by
  intro e
  obtain ⟨o, ho, hc⟩ := hr b e.symm
  unfold Box at h
  rw [h] at ho
  injection ho with ho
  subst ho
  cases hc
/-- the least number from one on -/
def nextW (ws : List Nat) (i : Int) : Option Nat := (nums (ofW ws)).find? fun n => decide (i ≤ (n : Int))
def nextN (ws : List Nat) (i : Int) : Int := ((nextW ws i).getD 0 : Nat)
def nextB (ws : List Nat) (i : Int) : Bool := (nextW ws i).isSome
set_option maxRecDepth 100000 in
set_option maxHeartbeats 2000000 in
theorem next_any (A : Option Addr) (n c : Nat) (ws : List Nat) (i : Int) (w : World) (h : Rd wE w.heap.size w A ws) (hn : n = ws.length) (hl : n ≤ 1000) (hf : Fit ws) (hL : LaidT w) :
    Calls Tryd.prog 12 #[.agg #[.slice A n c], .int .i64 i] w fun e w' => e = .returned (.tuple #[.int .i64 (nextN ws i), .bool (nextB ws i)]) ∧ Ext w w' := by
  replace h := hide h
  replace hn := hide hn
  replace hL := hide hL
  refine (callsIn_wide (n := 10)).1 ?_
  refine callsIn_of_wp_marks Tryd.func12 rfl trivial ?_ rfl
  simp only [Tryd.ntmps12, List.size_toArray, List.length_cons, List.length_nil, Nat.reduceAdd, Nat.reduceSub, Array.replicate_succ, Array.replicate_zero, List.push_toArray, List.append_toArray, List.nil_append, List.cons_append]
  gi_wp2_with fail
  refine wpIn_wide.2 (wp_scope_straight ((wpIn_wide (n := 10)).1 ?_))
  gi_wp2_with fail
  apply wpIn_label
  gi_wp2_with fail
  obtain ⟨w0, hw0⟩ : ∃ w0, w0 = (((w.alloc (.cells #[.slice A n c] 24)).alloc (.cells #[.int .i64 i] 3)).alloc (.cells #[.int .i64 0] 3)).alloc (.cells #[.bool false] 4) := ⟨_, rfl⟩
  rw [← hw0]
  have hE0 : Ext w w0 := by
    rw [hw0]
    exact ((((Below.refl _ w).alloc (Nat.le_refl _) _).alloc (by simp) _).alloc (by simp; omega) _).alloc (by simp; omega) _
  have B3 : Box w0 (w.heap.size + 1) 3 (.int .i64 i) := by
    rw [hw0]
    have := Box.new (w.alloc (.cells #[.slice A n c] 24)) 3 (.int .i64 i)
    rw [World.size_alloc] at this
    exact (this.alloc _).alloc _
  have B6 : Box w0 (w.heap.size + 1 + 1) 3 (.int .i64 0) := by
    rw [hw0]
    have := Box.new ((w.alloc (.cells #[.slice A n c] 24)).alloc (.cells #[.int .i64 i] 3)) 3 (.int .i64 0)
    rw [World.size_alloc, World.size_alloc] at this
    exact this.alloc _
  have B7 : Box w0 (w.heap.size + 1 + 1 + 1) 4 (.bool false) := by
    rw [hw0]
    have := Box.new (((w.alloc (.cells #[.slice A n c] 24)).alloc (.cells #[.int .i64 i] 3)).alloc (.cells #[.int .i64 0] 3)) 4 (.bool false)
    rw [World.size_alloc, World.size_alloc, World.size_alloc] at this
    exact this
  clear hw0
  obtain ⟨b3, hb3⟩ : ∃ b, b = w.heap.size + 1 := ⟨_, rfl⟩
  rw [← hb3] at B3 B6 B7 ⊢
  obtain ⟨b6, hb6⟩ : ∃ b, b = b3 + 1 := ⟨_, rfl⟩
  rw [← hb6] at B6 B7 ⊢
  obtain ⟨b7, hb7⟩ : ∃ b, b = b6 + 1 := ⟨_, rfl⟩
  rw [← hb7] at B7 ⊢
  have hle6 : w.heap.size ≤ b6 := by omega
  have hle7 : w.heap.size ≤ b7 := by omega
  have h67 : b6 ≠ b7 := by omega
  have h37 : b3 ≠ b7 := by omega
  have h36 : b3 ≠ b6 := by omega
  clear hb3 hb6 hb7
  refine ⟨trivial, (callsIn_wide.2 (of_any A n c ws _ (h.out.ext hE0) hn.out (by omega) hf)).mono ?_⟩
  rintro e w1 ⟨A1, c1, rfl, hA1, hr1, hE1⟩
  have hB1 := hE0.trans (hE1.mono hE0.size)
  have hr : Hid (Rd wE w.heap.size w1 A1 (ofW ws)) := hide (by
    rcases hA1 with rfl | rfl
    · have := h.out.below hB1
      unfold ofW
      split
      · exact this
      · exact .inl rfl
    · rcases hr1 with hr1 | ⟨_, _, hr1, _⟩
      · exact .inl hr1
      · cases hr1)
  clear hr1 hA1
  have hl1 : (ofW ws).length ≤ 1000 := Nat.le_trans (ofW_le ws) (by rw [← hn.out]; exact hl)
  obtain ⟨n1, hn1⟩ : ∃ n1, n1 = (ofW ws).length := ⟨_, rfl⟩
  rw [← hn1] at hl1 ⊢
  replace hn1 := hide hn1
  gi_wp2_with fail
  refine ⟨trivial, (callsIn_wide.2 (numbers_any A1 n1 c1 _)).mono ?_⟩
  rintro e w2 ⟨rfl, hw2⟩
  have hE2 : Ext w1 w2 := by rw [hw2]; exact (Below.refl _ _).alloc (Nat.le_refl _) _
  have hlt : w1.heap.size < w2.heap.size := by rw [hw2]; simp
  have hc2 : Hid (w2.cell? ⟨w1.heap.size, 0, none⟩ = some (.slice A1 n1 c1)) := hide (by rw [hw2]; simp [World.cell?_alloc_new])
  clear hw2
  have hB2 := hB1.trans (hE2.mono hB1.size)
  replace B3 := (B3.ext hE1).ext hE2
  replace B6 := (B6.ext hE1).ext hE2
  replace B7 := (B7.ext hE1).ext hE2
  have hw1 := hL.out.2
  gi_wp2_with fail
  refine wpIn_rangeFunc_ownG rfl (by decide) (gf := 56) (lb := #[.pointer (some ⟨w1.heap.size, 0, none⟩)]) rfl trivial (enters_of Tryd.func56 (by kernel_rfl) rfl)
    (numbers_stops 9 w1.heap.size w.heap.size A1 n1 c1 (ofW ws) w2 (ofW_fit hf) hn1.out hl1 hw1 hB2.size hlt hc2.out (hr.out.below (hE2.mono hB1.size)) (hL.out.ext hB2)) belowK_t (belowK_b hB2.size) (Below.refl _ _) (fun _ => rfl)
    (fun (pre : List Nat) W => (Box W b3 3 (.int .i64 i) ∧ Box W b6 3 (.int .i64 0) ∧ Box W b7 4 (.bool false) ∧ ∀ x ∈ pre, (x : Int) < i) ∧ Below w.heap.size w W)
    (fun cd (pre : List Nat) W => (cd = .exit 0 ∧ ∃ (ds : List Nat) (x : Nat), pre = ds ++ [x] ∧ (∀ y ∈ ds, (y : Int) < i) ∧ i ≤ (x : Int) ∧ Box W b6 3 (.int .i64 (x : Int)) ∧ Box W b7 4 (.bool true)) ∧ Below w.heap.size w W)
    (OwnFrom.and (Own.from (fun s A B row hs hg hr => ⟨hs.1.grown hg (box_ne hs.1 hr), hs.2.1.grown hg (box_ne hs.2.1 hr), hs.2.2.1.grown hg (box_ne hs.2.2.1 hr), hs.2.2.2⟩) _) (ownFrom_below (Nat.le_refl _) hB2.size))
    (fun cd => OwnFrom.and (Own.from (fun s A B row hs hg hr => by obtain ⟨h1, ds, x, h2, h3, h4, h5, h6⟩ := hs; exact ⟨h1, ds, x, h2, h3, h4, h5.grown hg (box_ne h5 hr), h6.grown hg (box_ne h6 hr)⟩) _) (ownFrom_below (Nat.le_refl _) hB2.size))
    ⟨⟨B3, B6, B7, fun x hx => by cases hx⟩, hB2⟩
    (fun (x : Nat) => { tmps := #[.agg #[.slice A n c], .int .i64 i, .pointer (some ⟨w.heap.size, 0, none⟩), .pointer (some ⟨b3, 0, none⟩), .int .i64 0, .bool false, .pointer (some ⟨b6, 0, none⟩), .pointer (some ⟨b7, 0, none⟩), .int .i64 (x : Int), .agg #[.slice A n c], .slice A1 n1 c1, .func (.func 56) #[] #[.pointer (some ⟨w1.heap.size, 0, none⟩)], .int .i64 (x : Int), undef, undef, undef, undef, undef, undef], defers := [] }) ?assign ?body ?done ?stop
  case assign =>
    intro l x W K hK
    gi_wp2
    exact hK
  case body =>
    rintro l pre x W ⟨⟨P3, P6, P7, hpre⟩, hB⟩ hlt
    have c3 := P3.cell
    have c6 := P6.cell
    have c7 := P7.cell
    have f6 := P6.free
    have f7 := P7.free
    have s3 := P3.lt
    have s6 := P6.lt
    have s7 := P7.lt
    by_cases hx : i ≤ (x : Int)
    · have Q6 := (P6.set (.int .i64 (x : Int))).far (p := ⟨b7, 0, none⟩) h67 (.bool true)
      have Q7 := (P7.far (p := ⟨b6, 0, none⟩) (Ne.symm h67) (.int .i64 (x : Int))).set (.bool true)
      gi_wp2
      exact ⟨KeepsFrom.trans ((KeepsOthers.setCell _ _ _).from _) ((KeepsOthers.setCell _ _ _).from _), ⟨rfl, pre, x, rfl, hpre, hx, Q6, Q7⟩, (hB.setCell (p := ⟨b6, 0, none⟩) hle6 _).setCell (p := ⟨b7, 0, none⟩) hle7 _⟩
    · have hx' : (x : Int) < i := by omega
      gi_wp2
      exact ⟨KeepsFrom.refl _ _, Below.refl _ _, ⟨P3, P6, P7, fun y hy => by
        rcases List.mem_append.1 hy with h | h
        · exact hpre y h
        · simp at h; subst h; exact hx'⟩, hB⟩
  case done =>
    rintro D ys W hD rfl ⟨⟨P3, P6, P7, hpre⟩, hB⟩ hK
    have hnx : nextW ws i = none := by
      unfold nextW
      rw [List.find?_eq_none]
      intro x hx
      have := hpre x hx
      simp
      omega
    have hv1 : Hid (nextN ws i = 0) := hide (by unfold nextN; rw [hnx]; rfl)
    have hv2 : Hid (nextB ws i = false) := hide (by unfold nextB; rw [hnx]; rfl)
    clear hnx hpre
    have c6 := P6.cell
    have c7 := P7.cell
    have s6 := P6.lt
    have s7 := P7.lt
    gi_wp2_with fail
    refine (wpIn_wide (n := 10)).2 ?_
    refine wp_region_ext (by kernel_rfl) (by kernel_rfl) ?_
    iterate 4
      apply ext_step rfl
      · intro W hW
        have hcW := (bcell hW).1
        unfold Oper.quietAt
        go_simp
        exact rfl
      simp only [Act.put, List.setIfInBounds_toArray, List.set_cons_zero, List.set_cons_succ]
    refine wpQuiet_nil (fun w4 hE4 => ?_)
    have hD4 : D < W.heap.size := (Array.getElem?_eq_some_iff.1 hK).1
    have hK4 : w4.heap[D]? = some (.deferred (some [])) := (hE4.block D hD4).trans hK
    have hB4 := hB.trans (hE4.mono hB.size)
    gi_wp2
    rw [Exit.noGoto_ret]
    refine ⟨by simp, .inl ⟨_, _, rfl, run_takeDeferred hK4, ?_⟩⟩
    refine ⟨_, results_tmp2 rfl _ _ _, by rw [hv1.out, hv2.out]; rfl, ?_⟩
    exact hB4.trans (belowK_b (w := w) (Nat.le_refl _) w4 D _ _ (Nat.le_trans hB2.size hD) hK4 rfl rfl)
  case stop =>
    rintro D cd pre W hD hpre ⟨⟨rfl, ds, x, rfl, hds, hx, P6, P7⟩, hB⟩ hK
    have hnx : nextW ws i = some x := by
      unfold nextW
      obtain ⟨r, hr⟩ := hpre
      rw [← hr, List.append_assoc, List.find?_append, List.find?_eq_none.2 (fun y hy => by have := hds y hy; simp; omega), List.singleton_append, List.find?_cons_of_pos (by simpa using hx)]
      rfl
    have hv1 : Hid (nextN ws i = (x : Int)) := hide (by unfold nextN; rw [hnx]; rfl)
    have hv2 : Hid (nextB ws i = true) := hide (by unfold nextB; rw [hnx]; rfl)
    clear hnx hpre hds
    have c6 := P6.cell
    have c7 := P7.cell
    have s6 := P6.lt
    have s7 := P7.lt
    gi_wp2_with fail
    refine (wpIn_wide (n := 10)).2 ?_
    refine wp_region_ext (by kernel_rfl) (by kernel_rfl) ?_
    iterate 4
      apply ext_step rfl
      · intro W hW
        have hcW := (bcell hW).1
        unfold Oper.quietAt
        go_simp
        exact rfl
      simp only [Act.put, List.setIfInBounds_toArray, List.set_cons_zero, List.set_cons_succ]
    refine wpQuiet_nil (fun w4 hE4 => ?_)
    have hD4 : D < W.heap.size := (Array.getElem?_eq_some_iff.1 hK).1
    have hK4 : w4.heap[D]? = some (.deferred (some [])) := (hE4.block D hD4).trans hK
    have hB4 := hB.trans (hE4.mono hB.size)
    gi_wp2
    rw [Exit.noGoto_ret]
    refine ⟨by simp, .inl ⟨_, _, rfl, run_takeDeferred hK4, ?_⟩⟩
    refine ⟨_, results_tmp2 rfl _ _ _, by rw [hv1.out, hv2.out]; rfl, ?_⟩
    exact hB4.trans (belowK_b (w := w) (Nat.le_refl _) w4 D _ _ (Nat.le_trans hB2.size hD) hK4 rfl rfl)
end Go.Proofs.YtkiklbngfocljaaDoor
