/- The document's Put, All and Same of tables. -/
import Derived.Test.YtpfmbehhppbcnaaDoorNamC
import Derived.Test.YtpfmbehhppbcnaaDoorTree
namespace Go.Proofs.YtpfmbehhppbcnaaDoor
open Go.RowKit

/-- a name put: the table, its number, the error -/
def putR (ts : List ByteArray) (s : ByteArray) : List ByteArray × Int × Int :=
  if wordB s = false then ([], 0, 200) else if s ∈ ts then (ts, (at_ ts s : Int), 0) else if ts.length = 300 then ([], 0, 6) else (ts ++ [s], (ts.length : Int), 0)
theorem allStep_put (ts : List ByteArray) (os : List Int) (s : ByteArray) : allStep (ts, os, 0) s = if (putR ts s).2.2 ≠ 0 then ([], [], (putR ts s).2.2) else ((putR ts s).1, os ++ [(putR ts s).2.1], 0) := by
  unfold allStep putR
  by_cases h1 : wordB s = false
  · simp [h1]
  · by_cases h2 : s ∈ ts
    · simp [h1, h2]
    · by_cases h3 : ts.length = 300
      · simp [h1, h2, h3]
      · simp [h1, h2, h3]
set_option maxRecDepth 100000 in
set_option maxHeartbeats 4000000 in
theorem refPut_any (base : Nat) (A : Option Addr) (n c : Nat) (xs : List ByteArray) (s : ByteArray) (w : World) (h : Rd strE w.heap.size w A xs) (hO : Own strE 9 base w (.slice A n c) xs) (hb : base ≤ w.heap.size) (hn : n = xs.length) (hl : n ≤ 1000000) (hms : s.size ≤ maxLen) :
    Calls Tryd.prog 25 #[.agg #[.slice A n c], .string s] w fun e w' => ∃ v, e = .returned (.tuple #[.agg #[v], .int .i64 (putR xs s).2.1, .int .i64 (putR xs s).2.2]) ∧ Own strE 9 base w' v (putR xs s).1 ∧ Ext w w' := by
  replace h := hide h
  replace hn := hide hn
  replace hO := hide hO
  go_enter Tryd.func25, Tryd.ntmps25
  go_upto_region 1 with fail
  obtain ⟨w0, hw0⟩ : ∃ x, x = (w.alloc (.cells #[.slice A n c] 27)).alloc (.cells #[.slice none 0 0] 27) := ⟨_, rfl⟩
  rw [← hw0]
  have E : Ext w w0 := by rw [hw0]; exact ((Below.refl _ _).alloc (Nat.le_refl _) _).alloc (by simp) _
  have X2 : Box w0 w.heap.size 27 (.slice A n c) := by rw [hw0]; exact (Box.new _ _ _).alloc _
  have X4 : Box w0 (w.heap.size + 1) 27 (.slice none 0 0) := by
    rw [hw0]
    have := Box.new (w.alloc (.cells #[.slice A n c] 27)) 27 (.slice none 0 0)
    rw [World.size_alloc] at this
    exact this
  clear hw0
  obtain ⟨b2, hb2⟩ : ∃ x, x = w.heap.size := ⟨_, rfl⟩
  rw [← hb2] at X2 X4 ⊢
  obtain ⟨b4, hb4⟩ : ∃ x, x = b2 + 1 := ⟨_, rfl⟩
  rw [← hb4] at X4 ⊢
  have hle4 : w.heap.size ≤ b4 := by omega
  have h24 : b2 ≠ b4 := by omega
  clear hb2 hb4
  have k2 := X2.cell
  have s2 := X2.lt
  go_wp2_with fail
  refine (refFind_any A n c xs s _ (h.out.ext E) hn.out hl).mono ?_
  rintro e w1 ⟨rfl, hx⟩
  replace X2 := X2.ext hx
  replace X4 := X4.ext hx
  replace E := E.trans (hx.mono E.size)
  clear hx k2 s2
  obtain ⟨y1, hy1⟩ : ∃ y, y = (if s ∈ xs then (at_ xs s : Int) else 0) := ⟨_, rfl⟩
  obtain ⟨y2, hy2⟩ : ∃ y, y = decide (s ∈ xs) := ⟨_, rfl⟩
  rw [← hy1, ← hy2]
  replace hy1 := hide hy1
  replace hy2 := hide hy2
  go_wp2_with fail
  refine (refWord_any s _ hms).mono ?_
  rintro e w2 ⟨rfl, hx⟩
  replace X2 := X2.ext hx
  replace X4 := X4.ext hx
  replace E := E.trans (hx.mono E.size)
  clear hx
  cases hw : wordB s with
  | false =>
    have hv : putR xs s = ([], 0, 200) := by unfold putR; rw [if_pos hw]
    replace hw := hide hw
    have f4 := X4.free
    have c4 := X4.cell
    have s4 := X4.lt
    have Y4 := hide (X4.set (.slice none 0 0))
    skip
    have Eb := hide (E.setCell (p := ⟨b4, 0, none⟩) hle4 (.slice none 0 0))
    have v1 := hide hv
    clear hv
    go_wp2
    refine bodyPost_ret (results_cell_tmp2 rfl _ _ b4 27 _ _ _ rfl Y4.out Tryd.underlying27 rfl (by kernel_rfl)) rfl ?_
    exact ⟨_, by rw [v1.out]; rfl, by rw [v1.out]; exact Own.nil_, Eb.out⟩
  | true =>
    by_cases hs : s ∈ xs
    · have hv : putR xs s = (xs, y1, 0) := by unfold putR; rw [if_neg (by rw [hw]; decide), if_pos hs, hy1.out, if_pos hs]
      have e2 : y2 = true := by rw [hy2.out, decide_eq_true hs]
      replace hw := hide hw
      replace hs := hide hs
      have k2 := X2.cell
      have s2 := X2.lt
      subst e2
      have f4 := X4.free
      have c4 := X4.cell
      have s4 := X4.lt
      have Y4 := hide (X4.set (.slice A n c))
      have R6b := hide ((hO.out.ext E).set X4 (by decide) (.slice A n c))
      have Eb := hide (E.setCell (p := ⟨b4, 0, none⟩) hle4 (.slice A n c))
      have v1 := hide hv
      clear hv
      go_wp2
      refine bodyPost_ret (results_cell_tmp2 rfl _ _ b4 27 _ _ _ rfl Y4.out Tryd.underlying27 rfl (by kernel_rfl)) rfl ?_
      exact ⟨_, by rw [v1.out]; rfl, by rw [v1.out]; exact R6b.out, Eb.out⟩
    · have e2 : y2 = false := by rw [hy2.out, decide_eq_false hs]
      have k2 := X2.cell
      have s2 := X2.lt
      by_cases h3 : n = 300
      · have hv : putR xs s = ([], 0, 6) := by unfold putR; rw [if_neg (by rw [hw]; decide), if_neg hs, if_pos (by rw [← hn.out]; exact h3)]
        replace hw := hide hw
        replace hs := hide hs
        subst e2
        have g3 : ((n : Int) == 300) = true := by rw [beq_iff_eq]; omega
        have f4 := X4.free
        have c4 := X4.cell
        have s4 := X4.lt
        have Y4 := hide (X4.set (.slice none 0 0))
        subst h3
        have Eb := hide (E.setCell (p := ⟨b4, 0, none⟩) hle4 (.slice none 0 0))
        have v1 := hide hv
        clear hv
        go_wp2
        refine bodyPost_ret (results_cell_tmp2 rfl _ _ b4 27 _ _ _ rfl Y4.out Tryd.underlying27 rfl (by kernel_rfl)) rfl ?_
        exact ⟨_, by rw [v1.out]; rfl, by rw [v1.out]; exact Own.nil_, Eb.out⟩
      · have hv : Hid (putR xs s = (xs ++ [s], (n : Int), 0)) := hide (by unfold putR; rw [if_neg (by rw [hw]; decide), if_neg hs, if_neg (by rw [← hn.out]; exact h3), ← hn.out])
        have g3 : ((n : Int) == 300) = false := by rw [beq_eq_false_iff_ne]; omega
        have g4 : ¬ (n : Int) = 300 := by omega
        replace hw := hide hw
        replace hs := hide hs
        replace h3 := hide h3
        subst e2
        go_upto_region 8 with fail
        have hm3 : ∃ w3, w3 = w2.drew := ⟨_, rfl⟩
        obtain ⟨w3, hw3⟩ := hm3
        have hx : Ext w2 w3 := by rw [hw3]; exact (Below.refl _ _).drew
        refine wp_region_tree (fun W => W.cell? ⟨b2, 0, none⟩ = some (.slice A n c)) (.q 1 (.q 2 (.q 4 (.q 8 (.q 9 (.q 10 (.f 0 (.f 3 (.w 5 (.w 6 (.q 7 (.w 11 (.q 12 (.q 13 .nil)))))) 5 (.w 3 (.w 6 (.q 7 (.w 11 (.q 12 (.q 13 .nil))))))) 5 (.w 0 (.w 3 (.w 6 (.q 7 (.w 11 (.q 12 (.q 13 .nil)))))))))))))) (by kernel_rfl) (by kernel_rfl) (by kernel_rfl) (by kernel_rfl) (fun _ _ d _ _ h => by cases d <;> exact h) k2 ?_
        rw [← hw3]
        clear hw3 k2 s2
        replace X2 := X2.ext hx
        replace X4 := X4.ext hx
        replace E := E.trans (hx.mono E.size)
        clear hx
        iterate 6
          apply tree_q rfl rfl
          · intro W hW
            have lW := World.block_lt_of_cell? W _ hW
            go_simp
            try exact rfl
          simp only [Act.put, List.setIfInBounds_toArray, List.set_cons_zero, List.set_cons_succ]
        refine tree_f ?_ ?_
        · refine tree_op rfl rfl (fun K hK => ?_)
          go_simp
          obtain ⟨w4, hN⟩ : ∃ x, x = World.alloc w3 (.cells #[] 9) := ⟨_, rfl⟩
          have R0 : Hid (Own strE 9 w.heap.size w4 (.slice (some ⟨(World.heap w3).size, 0, none⟩) 0 0) []) := hide (by rw [hN]; exact own_empty strE _ w3 _ rfl E.size)
          have hx : Ext w3 w4 := by rw [hN]; exact (Below.refl _ _).alloc (Nat.le_refl _) _
          rw [← hN]
          clear hN
          skip
          obtain ⟨g0, hg0⟩ : ∃ g, g = (World.heap w3).size := ⟨_, rfl⟩
          rw [← hg0] at R0 ⊢
          try rw [← hg0] at hgg
          clear hg0
          replace X2 := X2.ext hx
          replace X4 := X4.ext hx
          replace E := E.trans (hx.mono E.size)
          refine hK _ _ X2.cell ?_
          clear hK K hx
          try simp only [Act.put, List.setIfInBounds_toArray, List.set_cons_zero, List.set_cons_succ]
          refine tree_f ?_ ?_
          · refine tree_op rfl rfl (fun K hK => ?_)
            refine wp_app tyStr (.tmp 31) (.tmp 33) rfl rfl R0.out rfl (h.out.below E) hn.out (by have := hn.out; simp; omega) E.size ?_
            intro v3 w5 hown hg hne hnil
            have X2a := X2.app R0.out hg (by decide)
            have X4a := X4.app R0.out hg (by decide)
            have Ea : Ext w w5 := Own.below R0.out E hg E.size
            skip
            refine hK _ _ X2a.cell ?_
            clear hK K X2 X4 E R0 hg hne hnil
            rw [List.nil_append] at hown
            obtain ⟨A3, c3, rfl, -, -, -⟩ := hown.rd
            rw [← hn.out] at hown ⊢
            have R3 := hide hown
            have X2 := X2a
            have X4 := X4a
            have E := Ea
            clear hown X2a X4a Ea
            try simp only [Act.put, List.setIfInBounds_toArray, List.set_cons_zero, List.set_cons_succ]
            refine tree_w rfl rfl (fun K hK => ?_)
            go_simp
            obtain ⟨w6, hN⟩ : ∃ x, x = World.alloc w5 (.cells #[.string s] 9) := ⟨_, rfl⟩
            have R5 : Hid (Own strE 9 0 w6 (.slice (some ⟨(World.heap w5).size, 0, none⟩) 1 1) [s]) := hide (by rw [hN]; exact own_new (base := 0) (e := 9) strE w5 s _ rfl (Nat.zero_le _))
            have hx : Ext w5 w6 := by rw [hN]; exact (Below.refl _ _).alloc (Nat.le_refl _) _
            rw [← hN]
            clear hN
            replace R3 := hide (R3.out.ext hx)
            obtain ⟨g5, hg5⟩ : ∃ g, g = (World.heap w5).size := ⟨_, rfl⟩
            rw [← hg5] at R5 ⊢
            try rw [← hg5] at hgg
            clear hg5
            replace X2 := X2.ext hx
            replace X4 := X4.ext hx
            replace E := E.trans (hx.mono E.size)
            refine hK _ _ X2.cell ?_
            clear hK K hx
            try simp only [Act.put, List.setIfInBounds_toArray, List.set_cons_zero, List.set_cons_succ]
            obtain ⟨A5, c5, hv1, hr5, -, -⟩ := R5.out.rd
            injection hv1 with hv2 hv3 hv4
            subst hv2
            clear hv3 hv4
            refine tree_w rfl rfl (fun K hK => ?_)
            refine wp_app tyStr (.tmp 34) (.tmp 36) rfl rfl R3.out rfl hr5 rfl (by have := hn.out; simp; omega) E.size ?_
            intro v6 w7 hown hg hne hnil
            have X2a := X2.app R3.out hg (by decide)
            have X4a := X4.app R3.out hg (by decide)
            have Ea : Ext w w7 := Own.below R3.out E hg E.size
            refine hK _ _ X2a.cell ?_
            clear hK K X2 X4 E R3 R5 hg hne hnil hr5
            obtain ⟨A6, c6, rfl, -, -, -⟩ := hown.rd
            have hl6 : (xs ++ [s]).length = n + 1 := by rw [List.length_append, ← hn.out]; rfl
            rw [hl6] at hown ⊢
            have R6 := hide hown
            have X2 := X2a
            have X4 := X4a
            have E := Ea
            clear hown X2a X4a Ea hl6
            try simp only [Act.put, List.setIfInBounds_toArray, List.set_cons_zero, List.set_cons_succ]
            apply tree_q rfl rfl
            · intro W hW
              go_simp
              try exact rfl
            try simp only [Act.put, List.setIfInBounds_toArray, List.set_cons_zero, List.set_cons_succ]
            have f4 := X4.free
            have c4 := X4.cell
            have s4 := X4.lt
            refine tree_w rfl rfl (fun K hK => ?_)
            go_simp
            refine hK _ _ (X2.far (p := ⟨b4, 0, none⟩) h24 _).cell ?_
            clear hK K
            try simp only [Act.put, List.setIfInBounds_toArray, List.set_cons_zero, List.set_cons_succ]
            iterate 2
              apply tree_q rfl rfl
              · intro W hW
                go_simp
                try exact rfl
              simp only [Act.put, List.setIfInBounds_toArray, List.set_cons_zero, List.set_cons_succ]
            refine tree_nil ?_
            have Y4 := hide (X4.set (.slice A6 (n + 1) c6))
            have R6b := hide (R6.out.set X4 (by decide) (.slice A6 (n + 1) c6))
            have Eb := hide (E.setCell (p := ⟨b4, 0, none⟩) hle4 (.slice A6 (n + 1) c6))
            clear f4 c4 s4 X4 X2 E R6
            go_wp2
            refine bodyPost_ret (results_cell_tmp2 rfl _ _ b4 27 _ _ _ rfl Y4.out Tryd.underlying27 rfl (by kernel_rfl)) rfl ?_
            exact ⟨_, by rw [hv.out]; rfl, by rw [hv.out]; exact R6b.out.base_le hb, Eb.out⟩
          · have R0pre := R0.out.lt
            refine tree_op rfl rfl (fun K hK => ?_)
            go_simp
            obtain ⟨w5, hN⟩ : ∃ x, x = World.alloc w4 (.cells #[.string s] 9) := ⟨_, rfl⟩
            have R5 : Hid (Own strE 9 0 w5 (.slice (some ⟨(World.heap w4).size, 0, none⟩) 1 1) [s]) := hide (by rw [hN]; exact own_new (base := 0) (e := 9) strE w4 s _ rfl (Nat.zero_le _))
            have hx : Ext w4 w5 := by rw [hN]; exact (Below.refl _ _).alloc (Nat.le_refl _) _
            rw [← hN]
            clear hN
            replace R0 := hide (R0.out.ext hx); have hgg : g0 ≠ (World.heap w4).size := (by have := (R0pre g0 rfl).2; omega)
            obtain ⟨g5, hg5⟩ : ∃ g, g = (World.heap w4).size := ⟨_, rfl⟩
            rw [← hg5] at R5 ⊢
            try rw [← hg5] at hgg
            clear hg5
            replace X2 := X2.ext hx
            replace X4 := X4.ext hx
            replace E := E.trans (hx.mono E.size)
            refine hK _ _ X2.cell ?_
            clear hK K hx
            try simp only [Act.put, List.setIfInBounds_toArray, List.set_cons_zero, List.set_cons_succ]
            refine tree_w rfl rfl (fun K hK => ?_)
            refine wp_app tyStr (.tmp 31) (.tmp 33) rfl rfl R0.out rfl (h.out.below E) hn.out (by have := hn.out; simp; omega) E.size ?_
            intro v3 w6 hown hg hne hnil
            have X2a := X2.app R0.out hg (by decide)
            have X4a := X4.app R0.out hg (by decide)
            have Ea : Ext w w6 := Own.below R0.out E hg E.size
            have R5k := R5.out.kept hg (.inr (fun e => by have e' : some g5 = some g0 := e; injection e' with e'; omega)); replace R5 := hide R5k; clear R5k
            refine hK _ _ X2a.cell ?_
            clear hK K X2 X4 E R0 hg hne hnil
            rw [List.nil_append] at hown
            obtain ⟨A3, c3, rfl, -, -, -⟩ := hown.rd
            rw [← hn.out] at hown ⊢
            have R3 := hide hown
            have X2 := X2a
            have X4 := X4a
            have E := Ea
            clear hown X2a X4a Ea
            try simp only [Act.put, List.setIfInBounds_toArray, List.set_cons_zero, List.set_cons_succ]
            obtain ⟨A5, c5, hv1, hr5, -, -⟩ := R5.out.rd
            injection hv1 with hv2 hv3 hv4
            subst hv2
            clear hv3 hv4
            refine tree_w rfl rfl (fun K hK => ?_)
            refine wp_app tyStr (.tmp 34) (.tmp 36) rfl rfl R3.out rfl hr5 rfl (by have := hn.out; simp; omega) E.size ?_
            intro v6 w7 hown hg hne hnil
            have X2a := X2.app R3.out hg (by decide)
            have X4a := X4.app R3.out hg (by decide)
            have Ea : Ext w w7 := Own.below R3.out E hg E.size
            refine hK _ _ X2a.cell ?_
            clear hK K X2 X4 E R3 R5 hg hne hnil hr5
            obtain ⟨A6, c6, rfl, -, -, -⟩ := hown.rd
            have hl6 : (xs ++ [s]).length = n + 1 := by rw [List.length_append, ← hn.out]; rfl
            rw [hl6] at hown ⊢
            have R6 := hide hown
            have X2 := X2a
            have X4 := X4a
            have E := Ea
            clear hown X2a X4a Ea hl6
            try simp only [Act.put, List.setIfInBounds_toArray, List.set_cons_zero, List.set_cons_succ]
            apply tree_q rfl rfl
            · intro W hW
              go_simp
              try exact rfl
            try simp only [Act.put, List.setIfInBounds_toArray, List.set_cons_zero, List.set_cons_succ]
            have f4 := X4.free
            have c4 := X4.cell
            have s4 := X4.lt
            refine tree_w rfl rfl (fun K hK => ?_)
            go_simp
            refine hK _ _ (X2.far (p := ⟨b4, 0, none⟩) h24 _).cell ?_
            clear hK K
            try simp only [Act.put, List.setIfInBounds_toArray, List.set_cons_zero, List.set_cons_succ]
            iterate 2
              apply tree_q rfl rfl
              · intro W hW
                go_simp
                try exact rfl
              simp only [Act.put, List.setIfInBounds_toArray, List.set_cons_zero, List.set_cons_succ]
            refine tree_nil ?_
            have Y4 := hide (X4.set (.slice A6 (n + 1) c6))
            have R6b := hide (R6.out.set X4 (by decide) (.slice A6 (n + 1) c6))
            have Eb := hide (E.setCell (p := ⟨b4, 0, none⟩) hle4 (.slice A6 (n + 1) c6))
            clear f4 c4 s4 X4 X2 E R6
            go_wp2
            refine bodyPost_ret (results_cell_tmp2 rfl _ _ b4 27 _ _ _ rfl Y4.out Tryd.underlying27 rfl (by kernel_rfl)) rfl ?_
            exact ⟨_, by rw [hv.out]; rfl, by rw [hv.out]; exact R6b.out.base_le hb, Eb.out⟩
        · refine tree_op rfl rfl (fun K hK => ?_)
          go_simp
          obtain ⟨w4, hN⟩ : ∃ x, x = World.alloc w3 (.cells #[.string s] 9) := ⟨_, rfl⟩
          have R5 : Hid (Own strE 9 0 w4 (.slice (some ⟨(World.heap w3).size, 0, none⟩) 1 1) [s]) := hide (by rw [hN]; exact own_new (base := 0) (e := 9) strE w3 s _ rfl (Nat.zero_le _))
          have hx : Ext w3 w4 := by rw [hN]; exact (Below.refl _ _).alloc (Nat.le_refl _) _
          rw [← hN]
          clear hN
          skip
          obtain ⟨g5, hg5⟩ : ∃ g, g = (World.heap w3).size := ⟨_, rfl⟩
          rw [← hg5] at R5 ⊢
          try rw [← hg5] at hgg
          clear hg5
          replace X2 := X2.ext hx
          replace X4 := X4.ext hx
          replace E := E.trans (hx.mono E.size)
          refine hK _ _ X2.cell ?_
          clear hK K hx
          try simp only [Act.put, List.setIfInBounds_toArray, List.set_cons_zero, List.set_cons_succ]
          have R5pre := R5.out.lt
          refine tree_w rfl rfl (fun K hK => ?_)
          go_simp
          obtain ⟨w5, hN⟩ : ∃ x, x = World.alloc w4 (.cells #[] 9) := ⟨_, rfl⟩
          have R0 : Hid (Own strE 9 w.heap.size w5 (.slice (some ⟨(World.heap w4).size, 0, none⟩) 0 0) []) := hide (by rw [hN]; exact own_empty strE _ w4 _ rfl E.size)
          have hx : Ext w4 w5 := by rw [hN]; exact (Below.refl _ _).alloc (Nat.le_refl _) _
          rw [← hN]
          clear hN
          replace R5 := hide (R5.out.ext hx); have hgg : g5 ≠ (World.heap w4).size := (by have := (R5pre g5 rfl).2; omega)
          obtain ⟨g0, hg0⟩ : ∃ g, g = (World.heap w4).size := ⟨_, rfl⟩
          rw [← hg0] at R0 ⊢
          try rw [← hg0] at hgg
          clear hg0
          replace X2 := X2.ext hx
          replace X4 := X4.ext hx
          replace E := E.trans (hx.mono E.size)
          refine hK _ _ X2.cell ?_
          clear hK K hx
          try simp only [Act.put, List.setIfInBounds_toArray, List.set_cons_zero, List.set_cons_succ]
          refine tree_w rfl rfl (fun K hK => ?_)
          refine wp_app tyStr (.tmp 31) (.tmp 33) rfl rfl R0.out rfl (h.out.below E) hn.out (by have := hn.out; simp; omega) E.size ?_
          intro v3 w6 hown hg hne hnil
          have X2a := X2.app R0.out hg (by decide)
          have X4a := X4.app R0.out hg (by decide)
          have Ea : Ext w w6 := Own.below R0.out E hg E.size
          have R5k := R5.out.kept hg (.inr (fun e => by have e' : some g5 = some g0 := e; injection e' with e'; omega)); replace R5 := hide R5k; clear R5k
          refine hK _ _ X2a.cell ?_
          clear hK K X2 X4 E R0 hg hne hnil
          rw [List.nil_append] at hown
          obtain ⟨A3, c3, rfl, -, -, -⟩ := hown.rd
          rw [← hn.out] at hown ⊢
          have R3 := hide hown
          have X2 := X2a
          have X4 := X4a
          have E := Ea
          clear hown X2a X4a Ea
          try simp only [Act.put, List.setIfInBounds_toArray, List.set_cons_zero, List.set_cons_succ]
          obtain ⟨A5, c5, hv1, hr5, -, -⟩ := R5.out.rd
          injection hv1 with hv2 hv3 hv4
          subst hv2
          clear hv3 hv4
          refine tree_w rfl rfl (fun K hK => ?_)
          refine wp_app tyStr (.tmp 34) (.tmp 36) rfl rfl R3.out rfl hr5 rfl (by have := hn.out; simp; omega) E.size ?_
          intro v6 w7 hown hg hne hnil
          have X2a := X2.app R3.out hg (by decide)
          have X4a := X4.app R3.out hg (by decide)
          have Ea : Ext w w7 := Own.below R3.out E hg E.size
          refine hK _ _ X2a.cell ?_
          clear hK K X2 X4 E R3 R5 hg hne hnil hr5
          obtain ⟨A6, c6, rfl, -, -, -⟩ := hown.rd
          have hl6 : (xs ++ [s]).length = n + 1 := by rw [List.length_append, ← hn.out]; rfl
          rw [hl6] at hown ⊢
          have R6 := hide hown
          have X2 := X2a
          have X4 := X4a
          have E := Ea
          clear hown X2a X4a Ea hl6
          try simp only [Act.put, List.setIfInBounds_toArray, List.set_cons_zero, List.set_cons_succ]
          apply tree_q rfl rfl
          · intro W hW
            go_simp
            try exact rfl
          try simp only [Act.put, List.setIfInBounds_toArray, List.set_cons_zero, List.set_cons_succ]
          have f4 := X4.free
          have c4 := X4.cell
          have s4 := X4.lt
          refine tree_w rfl rfl (fun K hK => ?_)
          go_simp
          refine hK _ _ (X2.far (p := ⟨b4, 0, none⟩) h24 _).cell ?_
          clear hK K
          try simp only [Act.put, List.setIfInBounds_toArray, List.set_cons_zero, List.set_cons_succ]
          iterate 2
            apply tree_q rfl rfl
            · intro W hW
              go_simp
              try exact rfl
            simp only [Act.put, List.setIfInBounds_toArray, List.set_cons_zero, List.set_cons_succ]
          refine tree_nil ?_
          have Y4 := hide (X4.set (.slice A6 (n + 1) c6))
          have R6b := hide (R6.out.set X4 (by decide) (.slice A6 (n + 1) c6))
          have Eb := hide (E.setCell (p := ⟨b4, 0, none⟩) hle4 (.slice A6 (n + 1) c6))
          clear f4 c4 s4 X4 X2 E R6
          go_wp2
          refine bodyPost_ret (results_cell_tmp2 rfl _ _ b4 27 _ _ _ rfl Y4.out Tryd.underlying27 rfl (by kernel_rfl)) rfl ?_
          exact ⟨_, by rw [hv.out]; rfl, by rw [hv.out]; exact R6b.out.base_le hb, Eb.out⟩
end Go.Proofs.YtpfmbehhppbcnaaDoor
