/- Sets of numbers: Same, Meet, Minus, Within. -/
import Derived.Test.YtkiklbngfocljaaDoorBitE
namespace Go.Proofs.YtkiklbngfocljaaDoor
open Go.RowKit

theorem orJ : Joins 45 (fun x y => x ||| y) := fun x y hx hy w => or_any x y hx hy w
theorem andJ : Joins 52 (fun x y => x &&& y) := fun x y hx hy w => and_any x y hx hy w
theorem minusJ : Joins 46 minusN := fun x y hx hy w => minus_any x y hx hy w
set_option maxRecDepth 100000 in
set_option maxHeartbeats 2000000 in
theorem same_any (A1 A2 : Option Addr) (n1 c1 n2 c2 : Nat) (ws vs : List Nat) (w : World) (h1 : Rd wE w.heap.size w A1 ws) (hn1 : n1 = ws.length) (hl1 : n1 ≤ 1000) (hf1 : Fit ws) (h2 : Rd wE w.heap.size w A2 vs) (hn2 : n2 = vs.length) (hl2 : n2 ≤ 1000) (hf2 : Fit vs) :
    Calls Tryd.prog 24 #[.agg #[.slice A1 n1 c1], .agg #[.slice A2 n2 c2]] w fun e w' => e = .returned (.bool (decide (ofW ws = ofW vs))) ∧ Ext w w' := by
  replace h1 := hide h1
  replace h2 := hide h2
  replace hn1 := hide hn1
  replace hn2 := hide hn2
  go_enter Tryd.func24, Tryd.ntmps24
  go_upto_region 1 with fail
  obtain ⟨w0, hw0⟩ : ∃ w0, w0 = (w.alloc (.cells #[.slice A1 n1 c1] 24)).alloc (.cells #[.slice A2 n2 c2] 24) := ⟨_, rfl⟩
  rw [← hw0]
  have hE0 : Ext w w0 := by rw [hw0]; exact ((Below.refl _ _).alloc (Nat.le_refl _) _).alloc (by simp) _
  have hc2 : w0.cell? ⟨w.heap.size, 0, none⟩ = some (.slice A1 n1 c1) := by rw [hw0]; exact ((Box.new w _ _).alloc _).cell
  have hc3 : w0.cell? ⟨w.heap.size + 1, 0, none⟩ = some (.slice A2 n2 c2) := by
    rw [hw0]
    have := Box.new (w.alloc (.cells #[.slice A1 n1 c1] 24)) 24 (.slice A2 n2 c2)
    rw [World.size_alloc] at this
    exact this.cell
  have hsz : w0.heap.size = w.heap.size + 1 + 1 := by rw [hw0]; simp
  clear hw0
  obtain ⟨b3, hb3⟩ : ∃ b, b = w.heap.size + 1 := ⟨_, rfl⟩
  rw [← hb3] at hc3 hsz ⊢
  have hb2 : w.heap.size < w0.heap.size := by omega
  have hb3' : b3 < w0.heap.size := by omega
  clear hb3 hsz
  have hSd : Below w0.heap.size w0 w0.drew := (Below.refl _ _).drew
  have hEd : Ext w w0.drew := hE0.drew
  have hbd : w0.heap.size ≤ w0.drew.heap.size := Nat.le_refl _
  refine wp_region_mix (fun W => Below w0.heap.size w0 W) [(0, true), (2, true), (1, false), (3, false), (4, false), (5, true)] (by kernel_rfl) (by kernel_rfl) (by kernel_rfl) (by kernel_rfl) (fun _ _ d _ _ h => by cases d <;> exact h) ?_ ?_
  · exact hSd
  iterate 2
    apply mix_q rfl rfl
    · intro W hW
      have hcW := (bcell hW).1
      go_simp
      try exact rfl
    simp only [Act.put, List.setIfInBounds_toArray, List.set_cons_zero, List.set_cons_succ]
  refine mix_w rfl rfl (fun K hK => ?_)
  go_simp
  refine (of_any A1 n1 c1 ws _ (h1.out.ext hEd) hn1.out (by omega) hf1).mono ?_
  rintro e w1 ⟨A1', c1', rfl, -, hr1, hE1⟩
  refine hK _ _ ?_ ?_
  · exact hSd.trans (hE1.mono hbd)
  clear hK K
  try simp only [Act.put, List.setIfInBounds_toArray, List.set_cons_zero, List.set_cons_succ]
  have hS1 := hSd.trans (hE1.mono hbd)
  have hEx1 := hEd.trans (hE1.mono hEd.size)
  have hb1 := Nat.le_trans hbd hE1.size
  have hl1' : (ofW ws).length ≤ 1000 := Nat.le_trans (ofW_le ws) (by rw [← hn1.out]; exact hl1)
  obtain ⟨m1, hm1⟩ : ∃ m, m = (ofW ws).length := ⟨_, rfl⟩
  rw [← hm1] at hl1' ⊢
  replace hm1 := hide hm1
  replace hr1 := hide hr1
  clear hb2
  refine mix_w rfl rfl (fun K hK => ?_)
  go_simp
  refine (of_any A2 n2 c2 vs _ (h2.out.ext hEx1) hn2.out (by omega) hf2).mono ?_
  rintro e w2 ⟨A2', c2', rfl, -, hr2, hE2⟩
  refine hK _ _ ?_ ?_
  · exact hS1.trans (hE2.mono hb1)
  clear hK K
  try simp only [Act.put, List.setIfInBounds_toArray, List.set_cons_zero, List.set_cons_succ]
  have hS2 := hS1.trans (hE2.mono hb1)
  have hEx2 := hEx1.trans (hE2.mono hEx1.size)
  have hb2 := Nat.le_trans hb1 hE2.size
  have hl2' : (ofW vs).length ≤ 1000 := Nat.le_trans (ofW_le vs) (by rw [← hn2.out]; exact hl2)
  obtain ⟨m2, hm2⟩ : ∃ m, m = (ofW vs).length := ⟨_, rfl⟩
  rw [← hm2] at hl2' ⊢
  replace hm2 := hide hm2
  replace hr2 := hide hr2
  replace hr1 := hide (hr1.out.ext hE2)
  refine mix_w rfl rfl (fun K hK => ?_)
  go_simp
  refine (equalW_any A1' A2' m1 c1' m2 c2' (ofW ws) (ofW vs) _ hr1.out hr2.out hm1.out hm2.out (by omega)).mono ?_
  rintro e w3 ⟨rfl, hE3⟩
  refine hK _ _ ?_ ?_
  · exact hS2.trans (hE3.mono hb2)
  clear hK K
  try simp only [Act.put, List.setIfInBounds_toArray, List.set_cons_zero, List.set_cons_succ]
  iterate 1
    apply mix_q rfl rfl
    · intro W hW
      have hcW := (bcell hW).1
      go_simp
      try exact rfl
    simp only [Act.put, List.setIfInBounds_toArray, List.set_cons_zero, List.set_cons_succ]
  refine mix_nil ?_
  have hEx3 := hEx2.trans (hE3.mono hEx2.size)
  go_wp2
  go_ret
  exact ⟨rfl, hEx3⟩
set_option maxRecDepth 100000 in
set_option maxHeartbeats 2000000 in
theorem meet_any (A1 A2 : Option Addr) (n1 c1 n2 c2 : Nat) (ws vs : List Nat) (w : World) (h1 : Rd wE w.heap.size w A1 ws) (hn1 : n1 = ws.length) (hl1 : n1 ≤ 1000) (hf1 : Fit ws) (h2 : Rd wE w.heap.size w A2 vs) (hn2 : n2 = vs.length) (hl2 : n2 ≤ 1000) (hf2 : Fit vs) :
    Calls Tryd.prog 32 #[.agg #[.slice A1 n1 c1], .agg #[.slice A2 n2 c2]] w fun e w' => ∃ v, e = .returned (.agg #[v]) ∧ Own wE 43 w.heap.size w' v (trimW (joinL (fun x y => x &&& y) (ofW ws) (ofW vs))) ∧ Ext w w' := by
  replace h1 := hide h1
  replace h2 := hide h2
  replace hn1 := hide hn1
  replace hn2 := hide hn2
  go_enter Tryd.func32, Tryd.ntmps32
  go_upto_region 1 with fail
  obtain ⟨w0, hw0⟩ : ∃ w0, w0 = ((w.alloc (.cells #[.slice A1 n1 c1] 24)).alloc (.cells #[.slice A2 n2 c2] 24)).alloc (.cells #[.slice none 0 0] 24) := ⟨_, rfl⟩
  rw [← hw0]
  have hE0 : Ext w w0 := by rw [hw0]; exact (((Below.refl _ _).alloc (Nat.le_refl _) _).alloc (by simp) _).alloc (by simp; omega) _
  have hc2 : w0.cell? ⟨w.heap.size, 0, none⟩ = some (.slice A1 n1 c1) := by rw [hw0]; exact (((Box.new w _ _).alloc _).alloc _).cell
  have hc3 : w0.cell? ⟨w.heap.size + 1, 0, none⟩ = some (.slice A2 n2 c2) := by
    rw [hw0]
    have := Box.new (w.alloc (.cells #[.slice A1 n1 c1] 24)) 24 (.slice A2 n2 c2)
    rw [World.size_alloc] at this
    exact (this.alloc _).cell
  have hx4 : Box w0 (w.heap.size + 1 + 1) 24 (.slice none 0 0) := by
    rw [hw0]
    have := Box.new ((w.alloc (.cells #[.slice A1 n1 c1] 24)).alloc (.cells #[.slice A2 n2 c2] 24)) 24 (.slice none 0 0)
    rw [World.size_alloc, World.size_alloc] at this
    exact this
  have hsz : w0.heap.size = w.heap.size + 1 + 1 + 1 := by rw [hw0]; simp
  clear hw0
  obtain ⟨b3, hb3⟩ : ∃ b, b = w.heap.size + 1 := ⟨_, rfl⟩
  rw [← hb3] at hc3 hx4 hsz ⊢
  obtain ⟨b4, hb4⟩ : ∃ b, b = b3 + 1 := ⟨_, rfl⟩
  rw [← hb4] at hx4 hsz ⊢
  have hb2 : w.heap.size < b4 := by omega
  have hb3' : b3 < b4 := by omega
  have hb4' : w.heap.size ≤ b4 := by omega
  have hb4s : b4 ≤ w0.heap.size := by omega
  have hb2s : w.heap.size < w0.heap.size := by omega
  have hb3s : b3 < w0.heap.size := by omega
  clear hb3 hb4 hsz
  have hSd : Below b4 w0 w0.drew := (Below.refl _ _).drew
  have hEd : Ext w w0.drew := hE0.drew
  have hbd : b4 ≤ w0.drew.heap.size := hb4s
  have hx4d := hide hx4.drew
  clear hx4
  refine wp_region_mix (fun W => Below b4 w0 W) [(0, true), (2, true), (1, false), (3, false), (4, false), (5, false)] (by kernel_rfl) (by kernel_rfl) (by kernel_rfl) (by kernel_rfl) (fun _ _ d _ _ h => by cases d <;> exact h) ?_ ?_
  · exact hSd
  iterate 2
    apply mix_q rfl rfl
    · intro W hW
      have hcW := (bcell hW).1
      go_simp
      try exact rfl
    simp only [Act.put, List.setIfInBounds_toArray, List.set_cons_zero, List.set_cons_succ]
  refine mix_w rfl rfl (fun K hK => ?_)
  go_simp
  refine (of_any A1 n1 c1 ws _ (h1.out.ext hEd) hn1.out (by omega) hf1).mono ?_
  rintro e w1 ⟨A1', c1', rfl, -, hr1, hE1⟩
  refine hK _ _ ?_ ?_
  · exact hSd.trans (hE1.mono hbd)
  clear hK K
  try simp only [Act.put, List.setIfInBounds_toArray, List.set_cons_zero, List.set_cons_succ]
  have hS1 := hSd.trans (hE1.mono hbd)
  have hEx1 := hEd.trans (hE1.mono hEd.size)
  have hb1 := Nat.le_trans hbd hE1.size
  have hl1' : (ofW ws).length ≤ 1000 := Nat.le_trans (ofW_le ws) (by rw [← hn1.out]; exact hl1)
  obtain ⟨m1, hm1⟩ : ∃ m, m = (ofW ws).length := ⟨_, rfl⟩
  rw [← hm1] at hl1' ⊢
  replace hm1 := hide hm1
  replace hr1 := hide hr1
  clear hb2
  have hx41 := hide (hx4d.out.ext hE1)
  refine mix_w rfl rfl (fun K hK => ?_)
  go_simp
  refine (of_any A2 n2 c2 vs _ (h2.out.ext hEx1) hn2.out (by omega) hf2).mono ?_
  rintro e w2 ⟨A2', c2', rfl, -, hr2, hE2⟩
  refine hK _ _ ?_ ?_
  · exact hS1.trans (hE2.mono hb1)
  clear hK K
  try simp only [Act.put, List.setIfInBounds_toArray, List.set_cons_zero, List.set_cons_succ]
  have hS2 := hS1.trans (hE2.mono hb1)
  have hEx2 := hEx1.trans (hE2.mono hEx1.size)
  have hb2 := Nat.le_trans hb1 hE2.size
  have hl2' : (ofW vs).length ≤ 1000 := Nat.le_trans (ofW_le vs) (by rw [← hn2.out]; exact hl2)
  obtain ⟨m2, hm2⟩ : ∃ m, m = (ofW vs).length := ⟨_, rfl⟩
  rw [← hm2] at hl2' ⊢
  replace hm2 := hide hm2
  replace hr2 := hide hr2
  replace hr1 := hide (hr1.out.ext hE2)
  have hx42 := hide (hx41.out.ext hE2)
  refine mix_w rfl rfl (fun K hK => ?_)
  go_simp
  refine (joined_any 52 (fun x y => x &&& y) andJ enter_and A1' A2' m1 c1' m2 c2' (ofW ws) (ofW vs) _ hr1.out hm1.out hl1' (ofW_fit hf1) hr2.out hm2.out hl2' (ofW_fit hf2)).mono ?_
  rintro e w3 ⟨v, rfl, hO, hE3⟩
  refine hK _ _ ?_ ?_
  · exact hS2.trans (hE3.mono hb2)
  clear hK K
  try simp only [Act.put, List.setIfInBounds_toArray, List.set_cons_zero, List.set_cons_succ]
  have hx43 := hx42.out.ext hE3
  have hEx3 := hEx2.trans (hE3.mono hEx2.size)
  have hS3 := hS2.trans (hE3.mono hb2)
  have hcb := hx43.cell
  have hfb := hx43.free
  have hsb := hx43.lt
  have hO5 := hide ((hO.base_le hEx2.size).set hx43 (by decide) v)
  have hx44 := hide (hx43.set v)
  obtain ⟨A7, c7, rfl, -, -, -⟩ := hO.rd
  clear hO
  refine mix_w rfl rfl (fun K hK => ?_)
  go_simp
  refine hK _ _ ?_ ?_
  · exact hS3.setCell (p := ⟨b4, 0, none⟩) (Nat.le_refl _) _
  clear hK K
  try simp only [Act.put, List.setIfInBounds_toArray, List.set_cons_zero, List.set_cons_succ]
  refine mix_nil ?_
  go_wp2
  refine bodyPost_ret (results_cell_row rfl _ _ b4 24 _ _ _ rfl hx44.out Tryd.underlying24 rfl (by kernel_rfl)) rfl ?_
  exact ⟨_, rfl, hO5.out, hEx3.setCell (p := ⟨b4, 0, none⟩) hb4' _⟩
set_option maxRecDepth 100000 in
set_option maxHeartbeats 2000000 in
theorem minusS_any (A1 A2 : Option Addr) (n1 c1 n2 c2 : Nat) (ws vs : List Nat) (w : World) (h1 : Rd wE w.heap.size w A1 ws) (hn1 : n1 = ws.length) (hl1 : n1 ≤ 1000) (hf1 : Fit ws) (h2 : Rd wE w.heap.size w A2 vs) (hn2 : n2 = vs.length) (hl2 : n2 ≤ 1000) (hf2 : Fit vs) :
    Calls Tryd.prog 33 #[.agg #[.slice A1 n1 c1], .agg #[.slice A2 n2 c2]] w fun e w' => ∃ v, e = .returned (.agg #[v]) ∧ Own wE 43 w.heap.size w' v (trimW (joinL minusN (ofW ws) (ofW vs))) ∧ Ext w w' := by
  replace h1 := hide h1
  replace h2 := hide h2
  replace hn1 := hide hn1
  replace hn2 := hide hn2
  go_enter Tryd.func33, Tryd.ntmps33
  go_upto_region 1 with fail
  obtain ⟨w0, hw0⟩ : ∃ w0, w0 = ((w.alloc (.cells #[.slice A1 n1 c1] 24)).alloc (.cells #[.slice A2 n2 c2] 24)).alloc (.cells #[.slice none 0 0] 24) := ⟨_, rfl⟩
  rw [← hw0]
  have hE0 : Ext w w0 := by rw [hw0]; exact (((Below.refl _ _).alloc (Nat.le_refl _) _).alloc (by simp) _).alloc (by simp; omega) _
  have hc2 : w0.cell? ⟨w.heap.size, 0, none⟩ = some (.slice A1 n1 c1) := by rw [hw0]; exact (((Box.new w _ _).alloc _).alloc _).cell
  have hc3 : w0.cell? ⟨w.heap.size + 1, 0, none⟩ = some (.slice A2 n2 c2) := by
    rw [hw0]
    have := Box.new (w.alloc (.cells #[.slice A1 n1 c1] 24)) 24 (.slice A2 n2 c2)
    rw [World.size_alloc] at this
    exact (this.alloc _).cell
  have hx4 : Box w0 (w.heap.size + 1 + 1) 24 (.slice none 0 0) := by
    rw [hw0]
    have := Box.new ((w.alloc (.cells #[.slice A1 n1 c1] 24)).alloc (.cells #[.slice A2 n2 c2] 24)) 24 (.slice none 0 0)
    rw [World.size_alloc, World.size_alloc] at this
    exact this
  have hsz : w0.heap.size = w.heap.size + 1 + 1 + 1 := by rw [hw0]; simp
  clear hw0
  obtain ⟨b3, hb3⟩ : ∃ b, b = w.heap.size + 1 := ⟨_, rfl⟩
  rw [← hb3] at hc3 hx4 hsz ⊢
  obtain ⟨b4, hb4⟩ : ∃ b, b = b3 + 1 := ⟨_, rfl⟩
  rw [← hb4] at hx4 hsz ⊢
  have hb2 : w.heap.size < b4 := by omega
  have hb3' : b3 < b4 := by omega
  have hb4' : w.heap.size ≤ b4 := by omega
  have hb4s : b4 ≤ w0.heap.size := by omega
  have hb2s : w.heap.size < w0.heap.size := by omega
  have hb3s : b3 < w0.heap.size := by omega
  clear hb3 hb4 hsz
  have hSd : Below b4 w0 w0.drew := (Below.refl _ _).drew
  have hEd : Ext w w0.drew := hE0.drew
  have hbd : b4 ≤ w0.drew.heap.size := hb4s
  have hx4d := hide hx4.drew
  clear hx4
  refine wp_region_mix (fun W => Below b4 w0 W) [(0, true), (2, true), (1, false), (3, false), (4, false), (5, false)] (by kernel_rfl) (by kernel_rfl) (by kernel_rfl) (by kernel_rfl) (fun _ _ d _ _ h => by cases d <;> exact h) ?_ ?_
  · exact hSd
  iterate 2
    apply mix_q rfl rfl
    · intro W hW
      have hcW := (bcell hW).1
      go_simp
      try exact rfl
    simp only [Act.put, List.setIfInBounds_toArray, List.set_cons_zero, List.set_cons_succ]
  refine mix_w rfl rfl (fun K hK => ?_)
  go_simp
  refine (of_any A1 n1 c1 ws _ (h1.out.ext hEd) hn1.out (by omega) hf1).mono ?_
  rintro e w1 ⟨A1', c1', rfl, -, hr1, hE1⟩
  refine hK _ _ ?_ ?_
  · exact hSd.trans (hE1.mono hbd)
  clear hK K
  try simp only [Act.put, List.setIfInBounds_toArray, List.set_cons_zero, List.set_cons_succ]
  have hS1 := hSd.trans (hE1.mono hbd)
  have hEx1 := hEd.trans (hE1.mono hEd.size)
  have hb1 := Nat.le_trans hbd hE1.size
  have hl1' : (ofW ws).length ≤ 1000 := Nat.le_trans (ofW_le ws) (by rw [← hn1.out]; exact hl1)
  obtain ⟨m1, hm1⟩ : ∃ m, m = (ofW ws).length := ⟨_, rfl⟩
  rw [← hm1] at hl1' ⊢
  replace hm1 := hide hm1
  replace hr1 := hide hr1
  clear hb2
  have hx41 := hide (hx4d.out.ext hE1)
  refine mix_w rfl rfl (fun K hK => ?_)
  go_simp
  refine (of_any A2 n2 c2 vs _ (h2.out.ext hEx1) hn2.out (by omega) hf2).mono ?_
  rintro e w2 ⟨A2', c2', rfl, -, hr2, hE2⟩
  refine hK _ _ ?_ ?_
  · exact hS1.trans (hE2.mono hb1)
  clear hK K
  try simp only [Act.put, List.setIfInBounds_toArray, List.set_cons_zero, List.set_cons_succ]
  have hS2 := hS1.trans (hE2.mono hb1)
  have hEx2 := hEx1.trans (hE2.mono hEx1.size)
  have hb2 := Nat.le_trans hb1 hE2.size
  have hl2' : (ofW vs).length ≤ 1000 := Nat.le_trans (ofW_le vs) (by rw [← hn2.out]; exact hl2)
  obtain ⟨m2, hm2⟩ : ∃ m, m = (ofW vs).length := ⟨_, rfl⟩
  rw [← hm2] at hl2' ⊢
  replace hm2 := hide hm2
  replace hr2 := hide hr2
  replace hr1 := hide (hr1.out.ext hE2)
  have hx42 := hide (hx41.out.ext hE2)
  refine mix_w rfl rfl (fun K hK => ?_)
  go_simp
  refine (joined_any 46 minusN minusJ enter_minus A1' A2' m1 c1' m2 c2' (ofW ws) (ofW vs) _ hr1.out hm1.out hl1' (ofW_fit hf1) hr2.out hm2.out hl2' (ofW_fit hf2)).mono ?_
  rintro e w3 ⟨v, rfl, hO, hE3⟩
  refine hK _ _ ?_ ?_
  · exact hS2.trans (hE3.mono hb2)
  clear hK K
  try simp only [Act.put, List.setIfInBounds_toArray, List.set_cons_zero, List.set_cons_succ]
  have hx43 := hx42.out.ext hE3
  have hEx3 := hEx2.trans (hE3.mono hEx2.size)
  have hS3 := hS2.trans (hE3.mono hb2)
  have hcb := hx43.cell
  have hfb := hx43.free
  have hsb := hx43.lt
  have hO5 := hide ((hO.base_le hEx2.size).set hx43 (by decide) v)
  have hx44 := hide (hx43.set v)
  obtain ⟨A7, c7, rfl, -, -, -⟩ := hO.rd
  clear hO
  refine mix_w rfl rfl (fun K hK => ?_)
  go_simp
  refine hK _ _ ?_ ?_
  · exact hS3.setCell (p := ⟨b4, 0, none⟩) (Nat.le_refl _) _
  clear hK K
  try simp only [Act.put, List.setIfInBounds_toArray, List.set_cons_zero, List.set_cons_succ]
  refine mix_nil ?_
  go_wp2
  refine bodyPost_ret (results_cell_row rfl _ _ b4 24 _ _ _ rfl hx44.out Tryd.underlying24 rfl (by kernel_rfl)) rfl ?_
  exact ⟨_, rfl, hO5.out, hEx3.setCell (p := ⟨b4, 0, none⟩) hb4' _⟩
end Go.Proofs.YtkiklbngfocljaaDoor
