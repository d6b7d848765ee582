/- graph.compare, graph.edge, graph.all, graph.Check; the document's Ahead, RightEdge. -/
import Derived.Test.YtepgpiolhiidiaaGraA
namespace Go.Proofs.Ytepgpiolhiidiaa
open Go.RowKit

set_option maxHeartbeats 2000000 in
theorem compare_edge (a1 a2 a3 b1 b2 b3 : Int) (w : World) :
    Calls Try.prog 44 #[.agg #[.int .i64 a1, .int .i64 a2, .int .i64 a3], .agg #[.int .i64 b1, .int .i64 b2, .int .i64 b3]] w fun e w' => e = .returned (.int .i64 (cmpE (a1, a2, a3) (b1, b2, b3))) ∧ Ext w w' := by
  go_enter Try.func44, Try.ntmps44
  go_upto_region 1 with fail
  obtain ⟨w0, hw0⟩ : ∃ w0, w0 = (w.alloc (.cells #[.int .i64 a1, .int .i64 a2, .int .i64 a3] 50)).alloc (.cells #[.int .i64 b1, .int .i64 b2, .int .i64 b3] 50) := ⟨_, rfl⟩
  rw [← hw0]
  have hE0 : Ext w w0 := by rw [hw0]; exact ((Below.refl _ _).alloc (Nat.le_refl _) _).alloc (by simp) _
  have X2 : BoxN w0 w.heap.size 50 #[.int .i64 a1, .int .i64 a2, .int .i64 a3] := by rw [hw0]; exact (BoxN.new w _ _).alloc _
  have X3 : BoxN w0 (w.heap.size + 1) 50 #[.int .i64 b1, .int .i64 b2, .int .i64 b3] := by
    rw [hw0]
    have := BoxN.new (w.alloc (.cells #[.int .i64 a1, .int .i64 a2, .int .i64 a3] 50)) 50 #[.int .i64 b1, .int .i64 b2, .int .i64 b3]
    rw [World.size_alloc] at this
    exact this
  clear hw0
  obtain ⟨p2, hp2⟩ : ∃ b, b = w.heap.size := ⟨_, rfl⟩
  rw [← hp2] at X2 X3 ⊢
  obtain ⟨p3, hp3⟩ : ∃ b, b = p2 + 1 := ⟨_, rfl⟩
  rw [← hp3] at X3 ⊢
  clear hp2 hp3
  have k20 := X2.cell 0 (v := .int .i64 a1) rfl
  have k21 := X2.cell 1 (v := .int .i64 a2) rfl
  have k22 := X2.cell 2 (v := .int .i64 a3) rfl
  have k30 := X3.cell 0 (v := .int .i64 b1) rfl
  have k31 := X3.cell 1 (v := .int .i64 b2) rfl
  have k32 := X3.cell 2 (v := .int .i64 b3) rfl
  have s2 := X2.lt
  have s3 := X3.lt
  have T : Ext w0 w0.drew := (Below.refl _ _).drew
  refine wp_region_mix (fun W => Below w0.heap.size w0 W) [(0, true), (1, true), (2, true), (3, true), (5, true), (6, true), (7, true), (8, true), (10, true), (11, true), (12, true), (13, true), (4, false), (9, false), (14, false), (15, false), (16, false), (17, true)] (by kernel_rfl) (by kernel_rfl) (by kernel_rfl) (by kernel_rfl) (fun _ _ d _ _ h => by cases d <;> exact h) ?_ ?_
  · exact T
  obtain ⟨wl, hwh⟩ : ∃ x, x = w0.drew := ⟨_, rfl⟩
  rw [← hwh] at T ⊢
  clear hwh
  iterate 12
    apply mix_q rfl rfl
    · intro W hW
      have hcW := (bcell hW).1
      go_simp
      try exact rfl
    simp only [Act.put, List.setIfInBounds_toArray, List.set_cons_zero, List.set_cons_succ]
  refine mix_w rfl rfl (fun K hK => ?_)
  go_simp
  refine (compare_int a1 b1 _).mono ?_
  rintro e w' ⟨rfl, rfl⟩
  refine hK _ _ T ?_
  clear hK K
  try simp only [Act.put, List.setIfInBounds_toArray, List.set_cons_zero, List.set_cons_succ]
  refine mix_w rfl rfl (fun K hK => ?_)
  go_simp
  refine (compare_int a2 b2 _).mono ?_
  rintro e w' ⟨rfl, rfl⟩
  refine hK _ _ T ?_
  clear hK K
  try simp only [Act.put, List.setIfInBounds_toArray, List.set_cons_zero, List.set_cons_succ]
  refine mix_w rfl rfl (fun K hK => ?_)
  go_simp
  refine (compare_int a3 b3 _).mono ?_
  rintro e w' ⟨rfl, rfl⟩
  refine hK _ _ T ?_
  clear hK K
  try simp only [Act.put, List.setIfInBounds_toArray, List.set_cons_zero, List.set_cons_succ]
  refine mix_w rfl rfl (fun K hK => ?_)
  go_simp
  refine hK _ _ ?_ ?_
  · exact T.alloc T.size _
  clear hK K
  try simp only [Act.put, List.setIfInBounds_toArray, List.set_cons_zero, List.set_cons_succ]
  have hv : orI (cmpI a1 b1) (cmpI a2 b2) (cmpI a3 b3) = cmpE (a1, a2, a3) (b1, b2, b3) := rfl
  generalize cmpI a1 b1 = v1 at hv ⊢
  generalize cmpI a2 b2 = v2 at hv ⊢
  generalize cmpI a3 b3 = v3 at hv ⊢
  obtain ⟨wm, hwm⟩ : ∃ x, x = wl.alloc (.cells #[.int .i64 v1, .int .i64 v2, .int .i64 v3] 3) := ⟨_, rfl⟩
  rw [← hwm]
  have T2 : Ext w0 wm := by rw [hwm]; exact T.alloc T.size _
  have X4 : BoxN wm wl.heap.size 3 #[.int .i64 v1, .int .i64 v2, .int .i64 v3] := by rw [hwm]; exact BoxN.new _ _ _
  clear hwm
  refine mix_w rfl rfl (fun K hK => ?_)
  go_simp
  refine (or_int v1 v2 v3 wl.heap.size _ X4.lt (X4.cell 0 rfl) (X4.cell 1 rfl) (X4.cell 2 rfl)).mono ?_
  rintro e w' ⟨rfl, rfl⟩
  refine hK _ _ T2 ?_
  clear hK K
  try simp only [Act.put, List.setIfInBounds_toArray, List.set_cons_zero, List.set_cons_succ]
  rw [hv]
  iterate 1
    apply mix_q rfl rfl
    · intro W hW
      have hcW := (bcell hW).1
      go_simp
      try exact rfl
    simp only [Act.put, List.setIfInBounds_toArray, List.set_cons_zero, List.set_cons_succ]
  refine mix_nil ?_
  go_wp2
  go_ret
  exact ⟨rfl, hE0.trans (T2.mono hE0.size)⟩
set_option maxHeartbeats 2000000 in
theorem ahead_any (a1 a2 a3 b1 b2 b3 : Int) (w : World) :
    Calls Try.prog 34 #[.agg #[.int .i64 a1, .int .i64 a2, .int .i64 a3], .agg #[.int .i64 b1, .int .i64 b2, .int .i64 b3]] w fun e w' => e = .returned (.bool (ltE (a1, a2, a3) (b1, b2, b3))) ∧ Ext w w' := by
  go_enter Try.func34, Try.ntmps34
  go_upto_region 1 with fail
  obtain ⟨w0, hw0⟩ : ∃ w0, w0 = (w.alloc (.cells #[.int .i64 a1, .int .i64 a2, .int .i64 a3] 50)).alloc (.cells #[.int .i64 b1, .int .i64 b2, .int .i64 b3] 50) := ⟨_, rfl⟩
  rw [← hw0]
  have hE0 : Ext w w0 := by rw [hw0]; exact ((Below.refl _ _).alloc (Nat.le_refl _) _).alloc (by simp) _
  have X2 : BoxN w0 w.heap.size 50 #[.int .i64 a1, .int .i64 a2, .int .i64 a3] := by rw [hw0]; exact (BoxN.new w _ _).alloc _
  have X3 : BoxN w0 (w.heap.size + 1) 50 #[.int .i64 b1, .int .i64 b2, .int .i64 b3] := by
    rw [hw0]
    have := BoxN.new (w.alloc (.cells #[.int .i64 a1, .int .i64 a2, .int .i64 a3] 50)) 50 #[.int .i64 b1, .int .i64 b2, .int .i64 b3]
    rw [World.size_alloc] at this
    exact this
  clear hw0
  obtain ⟨p2, hp2⟩ : ∃ b, b = w.heap.size := ⟨_, rfl⟩
  rw [← hp2] at X2 X3 ⊢
  obtain ⟨p3, hp3⟩ : ∃ b, b = p2 + 1 := ⟨_, rfl⟩
  rw [← hp3] at X3 ⊢
  clear hp2 hp3
  have k20 := X2.cell 0 (v := .int .i64 a1) rfl
  have k21 := X2.cell 1 (v := .int .i64 a2) rfl
  have k22 := X2.cell 2 (v := .int .i64 a3) rfl
  have k30 := X3.cell 0 (v := .int .i64 b1) rfl
  have k31 := X3.cell 1 (v := .int .i64 b2) rfl
  have k32 := X3.cell 2 (v := .int .i64 b3) rfl
  have s2 := X2.lt
  have s3 := X3.lt
  by_cases h1 : a1 = b1
  · have h1' : (a1 != b1) = false := by simp [h1]
    by_cases h2 : a2 = b2
    · have h2' : (a2 != b2) = false := by simp [h2]
      have hv : Hid (ltE (a1, a2, a3) (b1, b2, b3) = decide (a3 < b3)) := hide (by unfold ltE; simp only [if_pos h1, if_pos h2])
      clear h1 h2
      go_wp2
      go_ret
      exact ⟨ret_bool hv.out.symm, hE0⟩
    · have h2' : (a2 != b2) = true := by simp [h2]
      have hv : Hid (ltE (a1, a2, a3) (b1, b2, b3) = decide (a2 < b2)) := hide (by unfold ltE; simp only [if_pos h1, if_neg h2])
      clear h1 h2
      go_wp2
      go_ret
      exact ⟨ret_bool hv.out.symm, hE0⟩
  · have h1' : (a1 != b1) = true := by simp [h1]
    have hv : Hid (ltE (a1, a2, a3) (b1, b2, b3) = decide (a1 < b1)) := hide (by unfold ltE; simp only [if_neg h1])
    clear h1
    go_wp2
    go_ret
    exact ⟨ret_bool hv.out.symm, hE0⟩

/-! ### Which edges may be -/
def nodeIn (n v : Int) : Bool := decide (0 ≤ v) && decide (v < n)
def rightE (n : Int) (x : Int × Int × Int) : Bool := nodeIn n x.1 && (nodeIn n x.2.1 && (decide (x.1 ≠ x.2.1) && (decide (0 ≤ x.2.2) && decide (x.2.2 ≤ 9))))
theorem rightE_iff (n : Int) (x : Int × Int × Int) : rightE n x = true ↔ 0 ≤ x.1 ∧ x.1 < n ∧ 0 ≤ x.2.1 ∧ x.2.1 < n ∧ x.1 ≠ x.2.1 ∧ 0 ≤ x.2.2 ∧ x.2.2 ≤ 9 := by
  unfold rightE nodeIn
  simp only [Bool.and_eq_true, decide_eq_true_eq]
  omega
set_option maxHeartbeats 1000000 in
theorem node_any (n v : Int) (b : Nat) (w : World) (hb : b < w.heap.size) (hc : w.cell? ⟨b, 0, none⟩ = some (.int .i64 n)) :
    Calls Try.prog 60 #[.int .i64 v, .pointer (some ⟨b, 0, none⟩)] w fun e w' => e = .returned (.bool (nodeIn n v)) ∧ w = w' := by
  by_cases h : 0 ≤ v
  · have hv : nodeIn n v = decide (v < n) := by unfold nodeIn; rw [decide_eq_true h]; rfl
    replace hv := hide hv
    go_enter Try.func60, Try.ntmps60
    go_wp2
    go_ret
    exact ⟨ret_bool hv.out.symm, rfl⟩
  · have hv : nodeIn n v = false := by unfold nodeIn; rw [decide_eq_false h]; rfl
    replace hv := hide hv
    go_enter Try.func60, Try.ntmps60
    go_wp2
    go_ret
    exact ⟨ret_bool hv.out.symm, rfl⟩
theorem enter_node (args : Array Value) (w : World) : (callFunc 60 args).run Try.prog w = .ok (.enter 60 args) w := enters_of Try.func60 (by kernel_rfl) rfl args w
set_option maxHeartbeats 2000000 in
theorem edge_any (n a b c : Int) (w : World) :
    Calls Try.prog 43 #[.int .i64 n, .agg #[.int .i64 a, .int .i64 b, .int .i64 c]] w fun e w' => e = .returned (.bool (rightE n (a, b, c))) ∧ Ext w w' := by
  have henter := enter_node
  go_enter Try.func43, Try.ntmps43
  go_upto_region 2 with fail
  obtain ⟨w0, hw0⟩ : ∃ w0, w0 = (w.alloc (.cells #[.int .i64 n] 3)).alloc (.cells #[.int .i64 a, .int .i64 b, .int .i64 c] 50) := ⟨_, rfl⟩
  rw [← hw0]
  have hE0 : Ext w w0 := by rw [hw0]; exact ((Below.refl _ _).alloc (Nat.le_refl _) _).alloc (by simp) _
  have X2 : BoxN w0 w.heap.size 3 #[.int .i64 n] := by rw [hw0]; exact (BoxN.new w _ _).alloc _
  have X3 : BoxN w0 (w.heap.size + 1) 50 #[.int .i64 a, .int .i64 b, .int .i64 c] := by
    rw [hw0]
    have := BoxN.new (w.alloc (.cells #[.int .i64 n] 3)) 50 #[.int .i64 a, .int .i64 b, .int .i64 c]
    rw [World.size_alloc] at this
    exact this
  clear hw0
  obtain ⟨p2, hp2⟩ : ∃ b, b = w.heap.size := ⟨_, rfl⟩
  rw [← hp2] at X2 X3 ⊢
  obtain ⟨p3, hp3⟩ : ∃ b, b = p2 + 1 := ⟨_, rfl⟩
  rw [← hp3] at X3 ⊢
  clear hp2 hp3
  have k20 := X2.cell 0 (v := .int .i64 n) rfl
  have k30 := X3.cell 0 (v := .int .i64 a) rfl
  have k31 := X3.cell 1 (v := .int .i64 b) rfl
  have k32 := X3.cell 2 (v := .int .i64 c) rfl
  have s2 := X2.lt
  have s3 := X3.lt
  go_wp2_with fail
  refine (node_any n a p2 _ s2 k20).mono ?_
  rintro e w1 ⟨rfl, rfl⟩
  cases h1 : nodeIn n a with
  | false =>
    have hv : Hid (rightE n (a, b, c) = false) := hide (by unfold rightE; simp only [h1]; simp)
    go_wp2
    go_ret
    exact ⟨ret_bool hv.out.symm, hE0⟩
  | true =>
    go_wp2_with fail
    refine (node_any n b p2 _ s2 k20).mono ?_
    rintro e w1 ⟨rfl, rfl⟩
    cases h2 : nodeIn n b with
    | false =>
      have hv : Hid (rightE n (a, b, c) = false) := hide (by unfold rightE; simp only [h1, h2]; simp)
      go_wp2
      go_ret
      exact ⟨ret_bool hv.out.symm, hE0⟩
    | true =>
      by_cases h3 : a = b
      · have h3' : (a != b) = false := by simp [h3]
        have hv : Hid (rightE n (a, b, c) = false) := hide (by unfold rightE; simp [h3])
        clear h3
        go_wp2
        go_ret
        exact ⟨ret_bool hv.out.symm, hE0⟩
      · have h3' : (a != b) = true := by simp [h3]
        by_cases h4 : 0 ≤ c
        · have hv : Hid (rightE n (a, b, c) = decide (c ≤ 9)) := hide (by unfold rightE; simp [h1, h2, h3, h4])
          clear h3
          go_wp2
          go_ret
          exact ⟨ret_bool hv.out.symm, hE0⟩
        · have hv : Hid (rightE n (a, b, c) = false) := hide (by unfold rightE; simp [h4])
          clear h3
          go_wp2
          go_ret
          exact ⟨ret_bool hv.out.symm, hE0⟩
set_option maxHeartbeats 2000000 in
theorem rightEdge_any (n a b c : Int) (w : World) :
    Calls Try.prog 33 #[.int .i64 n, .agg #[.int .i64 a, .int .i64 b, .int .i64 c]] w fun e w' => e = .returned (.bool (rightE n (a, b, c))) ∧ Ext w w' := by
  go_enter Try.func33, Try.ntmps33
  go_upto_region 1 with fail
  obtain ⟨w0, hw0⟩ : ∃ w0, w0 = w.alloc (.cells #[.int .i64 a, .int .i64 b, .int .i64 c] 50) := ⟨_, rfl⟩
  rw [← hw0]
  have hE0 : Ext w w0 := by rw [hw0]; exact (Below.refl _ _).alloc (Nat.le_refl _) _
  have X3 : BoxN w0 w.heap.size 50 #[.int .i64 a, .int .i64 b, .int .i64 c] := by rw [hw0]; exact BoxN.new w _ _
  clear hw0
  obtain ⟨p3, hp3⟩ : ∃ b, b = w.heap.size := ⟨_, rfl⟩
  rw [← hp3] at X3 ⊢
  clear hp3
  have k30 := X3.cell 0 (v := .int .i64 a) rfl
  have k31 := X3.cell 1 (v := .int .i64 b) rfl
  have k32 := X3.cell 2 (v := .int .i64 c) rfl
  have s3 := X3.lt
  by_cases h1 : 0 ≤ a
  · by_cases h2 : a < n
    · by_cases h3 : 0 ≤ b
      · by_cases h4 : b < n
        · by_cases h5 : a = b
          · have h5' : (a != b) = false := by simp [h5]
            have hv : Hid (rightE n (a, b, c) = false) := hide (by unfold rightE; simp [h5])
            clear h5
            go_wp2
            go_ret
            exact ⟨ret_bool hv.out.symm, hE0⟩
          · have h5' : (a != b) = true := by simp [h5]
            by_cases h6 : 0 ≤ c
            · have hv : Hid (rightE n (a, b, c) = decide (c ≤ 9)) := hide (by unfold rightE nodeIn; simp [h1, h2, h3, h4, h5, h6])
              clear h5
              go_wp2
              go_ret
              exact ⟨ret_bool hv.out.symm, hE0⟩
            · have hv : Hid (rightE n (a, b, c) = false) := hide (by unfold rightE nodeIn; simp [h6])
              clear h5
              go_wp2
              go_ret
              exact ⟨ret_bool hv.out.symm, hE0⟩
        · have hv : Hid (rightE n (a, b, c) = false) := hide (by unfold rightE nodeIn; simp [h4])
          go_wp2
          go_ret
          exact ⟨ret_bool hv.out.symm, hE0⟩
      · have hv : Hid (rightE n (a, b, c) = false) := hide (by unfold rightE nodeIn; simp [h3])
        go_wp2
        go_ret
        exact ⟨ret_bool hv.out.symm, hE0⟩
    · have hv : Hid (rightE n (a, b, c) = false) := hide (by unfold rightE nodeIn; simp [h2])
      go_wp2
      go_ret
      exact ⟨ret_bool hv.out.symm, hE0⟩
  · have hv : Hid (rightE n (a, b, c) = false) := hide (by unfold rightE nodeIn; simp [h1])
    go_wp2
    go_ret
    exact ⟨ret_bool hv.out.symm, hE0⟩
end Go.Proofs.Ytepgpiolhiidiaa
