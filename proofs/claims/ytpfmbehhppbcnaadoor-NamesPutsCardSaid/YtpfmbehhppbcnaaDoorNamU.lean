/- names.Put. -/
import Derived.Test.YtpfmbehhppbcnaaDoorNamN
namespace Go.Proofs.YtpfmbehhppbcnaaDoor
open Go.RowKit

/-- a name put by the layer: as the document's, where the table is fine -/
def putN (xs : List ByteArray) (s : ByteArray) : List ByteArray × Int × Int := if fineB xs = false then ([], 0, 201) else putR xs s
set_option maxRecDepth 100000 in
set_option maxHeartbeats 4000000 in
theorem put_any (A : Option Addr) (n c : Nat) (xs : List ByteArray) (s : ByteArray) (w : World) (h : Rd strE w.heap.size w A xs) (hn : n = xs.length) (hl : n ≤ 1000000) (hm : ∀ x ∈ xs, x.size ≤ maxLen) (hms : s.size ≤ maxLen) (hU : LaidU w) :
    Calls Tryd.prog 24 #[.agg #[.slice A n c], .string s] w fun e w' => ∃ v, e = .returned (.tuple #[.agg #[v], .int .i64 (putN xs s).2.1, .int .i64 (putN xs s).2.2]) ∧ Own strE 9 w.heap.size w' v (putN xs s).1 ∧ Ext w w' := by
  replace h := hide h
  replace hn := hide hn
  replace hU := hide hU
  go_enter Tryd.func24, Tryd.ntmps24
  go_upto_region 1 with fail
  obtain ⟨w0, hw0⟩ : ∃ x, x = (w.alloc (.cells #[.slice A n c] 27)).alloc (.cells #[.slice none 0 0] 27) := ⟨_, rfl⟩
  rw [← hw0]
  have E : Ext w w0 := by rw [hw0]; exact ((Below.refl _ _).alloc (Nat.le_refl _) _).alloc (by simp) _
  have X2 : Box w0 w.heap.size 27 (.slice A n c) := by rw [hw0]; exact (Box.new _ _ _).alloc _
  have X4 : Box w0 (w.heap.size + 1) 27 (.slice none 0 0) := by
    rw [hw0]
    have := Box.new (w.alloc (.cells #[.slice A n c] 27)) 27 (.slice none 0 0)
    rw [World.size_alloc] at this
    exact this
  clear hw0
  obtain ⟨b2, hb2⟩ : ∃ x, x = w.heap.size := ⟨_, rfl⟩
  rw [← hb2] at X2 X4 ⊢
  obtain ⟨b4, hb4⟩ : ∃ x, x = b2 + 1 := ⟨_, rfl⟩
  rw [← hb4] at X4 ⊢
  have hle4 : w.heap.size ≤ b4 := by omega
  have h24 : b2 ≠ b4 := by omega
  clear hb2 hb4
  have k2 := X2.cell
  have s2 := X2.lt
  go_wp2_with fail
  refine (fine_any A n c xs _ (h.out.ext E) hn.out hl hm (hU.out.ext E)).mono ?_
  rintro e w1 ⟨rfl, hx⟩
  replace X2 := X2.ext hx
  replace X4 := X4.ext hx
  replace E := E.trans (hx.mono E.size)
  clear hx k2 s2
  cases hf : fineB xs with
  | false =>
    rw [finE_no hf]
    have hv : putN xs s = ([], 0, 201) := by unfold putN; rw [if_pos hf]
    replace hf := hide hf
    have f4 := X4.free
    have c4 := X4.cell
    have s4 := X4.lt
    have Y4 := hide (X4.set (.slice none 0 0))
    skip
    have Eb := hide (E.setCell (p := ⟨b4, 0, none⟩) hle4 (.slice none 0 0))
    have v1 := hide hv
    clear hv
    go_wp2
    refine bodyPost_ret (results_cell_tmp2 rfl _ _ b4 27 _ _ _ rfl Y4.out Tryd.underlying27 rfl (by kernel_rfl)) rfl ?_
    exact ⟨_, by rw [v1.out]; rfl, by rw [v1.out]; exact Own.nil_, Eb.out⟩
  | true =>
    rw [finE_yes hf]
    have hp : Hid (putN xs s = putR xs s) := hide (by unfold putN; rw [if_neg (by rw [hf]; decide)])
    replace hf := hide hf
    go_wp2_with fail
    refine (checkN_any s _ hms (hU.out.ext E)).mono ?_
    rintro e w2 ⟨rfl, hx⟩
    replace X2 := X2.ext hx
    replace X4 := X4.ext hx
    replace E := E.trans (hx.mono E.size)
    clear hx
    cases hw : wordB s with
    | false =>
      rw [chkN_not hw]
      have hv : putN xs s = ([], 0, 200) := by rw [hp.out]; unfold putR; rw [if_pos hw]
      replace hw := hide hw
      have f4 := X4.free
      have c4 := X4.cell
      have s4 := X4.lt
      have Y4 := hide (X4.set (.slice none 0 0))
      skip
      have Eb := hide (E.setCell (p := ⟨b4, 0, none⟩) hle4 (.slice none 0 0))
      have v1 := hide hv
      clear hv
      go_wp2
      refine bodyPost_ret (results_cell_tmp2 rfl _ _ b4 27 _ _ _ rfl Y4.out Tryd.underlying27 rfl (by kernel_rfl)) rfl ?_
      exact ⟨_, by rw [v1.out]; rfl, by rw [v1.out]; exact Own.nil_, Eb.out⟩
    | true =>
      rw [chkN_word hw]
      have k2 := X2.cell
      have s2 := X2.lt
      go_wp2_with fail
      refine (cloneS_any A n c xs _ (h.out.ext E) hn.out hl).mono ?_
      rintro e w3 ⟨v, rfl, hO, hx⟩
      have O9 := hO.base_le E.size
      obtain ⟨A9, c9, rfl, -, -, -⟩ := hO.rd
      rw [← hn.out] at O9 ⊢
      replace O9 := hide O9
      clear hO
      replace X2 := X2.ext hx
      replace X4 := X4.ext hx
      replace E := E.trans (hx.mono E.size)
      clear hx k2 s2
      have k2 := X2.cell
      have s2 := X2.lt
      obtain ⟨y1, hy1⟩ : ∃ y, y = foundN xs s := ⟨_, rfl⟩
      obtain ⟨y2, hy2⟩ : ∃ y, y = foundB xs s := ⟨_, rfl⟩
      replace hy1 := hide hy1
      replace hy2 := hide hy2
      go_wp2_with fail
      refine (find_any A n c xs s _ (h.out.ext E) hn.out hl hm (hU.out.ext E)).mono ?_
      rintro e w4 ⟨rfl, hx⟩
      rw [← hy1.out, ← hy2.out]
      replace O9 := hide (O9.out.ext hx)
      replace X2 := X2.ext hx
      replace X4 := X4.ext hx
      replace E := E.trans (hx.mono E.size)
      clear hx k2 s2
      by_cases hs : s ∈ xs
      · have e2 : y2 = true := by rw [hy2.out]; unfold foundB; rw [decide_eq_true hs, hf.out]; rfl
        have e1 : y1 = (at_ xs s : Int) := by rw [hy1.out]; unfold foundN; rw [← hy2.out, e2]; rfl
        have hv : putN xs s = (xs, y1, 0) := by rw [hp.out]; unfold putR; rw [if_neg (by rw [hw]; decide), if_pos hs, e1]
        replace e1 := hide e1
        replace hw := hide hw
        replace hs := hide hs
        subst e2
        have f4 := X4.free
        have c4 := X4.cell
        have s4 := X4.lt
        have Y4 := hide (X4.set (.slice A9 n c9))
        have R6b := hide (O9.out.set X4 (by decide) (.slice A9 n c9))
        have Eb := hide (E.setCell (p := ⟨b4, 0, none⟩) hle4 (.slice A9 n c9))
        have v1 := hide hv
        clear hv
        go_wp2
        refine bodyPost_ret (results_cell_tmp2 rfl _ _ b4 27 _ _ _ rfl Y4.out Tryd.underlying27 rfl (by kernel_rfl)) rfl ?_
        exact ⟨_, by rw [v1.out]; rfl, by rw [v1.out]; exact R6b.out, Eb.out⟩
      · have e2 : y2 = false := by rw [hy2.out]; unfold foundB; rw [decide_eq_false hs]; rfl
        by_cases h3 : n = 300
        · have hv : putN xs s = ([], 0, 6) := by rw [hp.out]; unfold putR; rw [if_neg (by rw [hw]; decide), if_neg hs, if_pos (by rw [← hn.out]; exact h3)]
          replace hw := hide hw
          replace hs := hide hs
          subst e2
          have g3 : ((n : Int) == 300) = true := by rw [beq_iff_eq]; omega
          have f4 := X4.free
          have c4 := X4.cell
          have s4 := X4.lt
          have Y4 := hide (X4.set (.slice none 0 0))
          subst h3
          have Eb := hide (E.setCell (p := ⟨b4, 0, none⟩) hle4 (.slice none 0 0))
          have v1 := hide hv
          clear hv
          go_wp2
          refine bodyPost_ret (results_cell_tmp2 rfl _ _ b4 27 _ _ _ rfl Y4.out Tryd.underlying27 rfl (by kernel_rfl)) rfl ?_
          exact ⟨_, by rw [v1.out]; rfl, by rw [v1.out]; exact Own.nil_, Eb.out⟩
        · have hv : Hid (putN xs s = (xs ++ [s], (n : Int), 0)) := hide (by rw [hp.out]; unfold putR; rw [if_neg (by rw [hw]; decide), if_neg hs, if_neg (by rw [← hn.out]; exact h3), ← hn.out])
          have g3 : ((n : Int) == 300) = false := by rw [beq_eq_false_iff_ne]; omega
          have g4 : ¬ (n : Int) = 300 := by omega
          replace hw := hide hw
          replace hs := hide hs
          replace h3 := hide h3
          subst e2
          have hon := own_new (base := 0) (e := 9) strE w4 s w4.heap.size rfl (Nat.zero_le _)
          obtain ⟨A43, c43, hv1, hr43, -, -⟩ := hon.rd
          injection hv1 with hv2 hv3 hv4
          subst hv2
          clear hon hv3 hv4
          replace hr43 := hide hr43
          have Oa := hide (O9.out.alloc (.cells (strE.cs s).toArray 9))
          have X4a := hide (X4.alloc (.cells (strE.cs s).toArray 9))
          have hsz := E.size
          have hEa := hide (E.alloc hsz (.cells (strE.cs s).toArray 9))
          clear O9 X2 X4 E
          go_wp2_with (at_builtin; refine wpList_app tyStr rfl (.tmp 41) (.tmp 43) rfl rfl Oa.out rfl hr43.out rfl (by have := hn.out; simp at this ⊢; omega) (by simp; omega) ?_)
          intro v' w9 hown hg hne hnil
          have X4 := X4a.out.app Oa.out hg (by decide)
          have E : Ext w w9 := Own.below Oa.out hEa.out hg (by simp; omega)
          have hownb := hide hown
          clear hown hg hne hnil hr43 Oa X4a hEa hsz
          obtain ⟨A44, c44, hv8, -, -, -⟩ := hownb.out.rd
          subst hv8
          have f4 := X4.free
          have k4 := X4.cell
          have s4 := X4.lt
          obtain ⟨n44, hn44⟩ : ∃ m, m = (xs ++ [s]).length := ⟨_, rfl⟩
          rw [← hn44] at hownb ⊢
          replace hn44 := hide hn44
          have Y4 := hide (X4.set (.slice A44 n44 c44))
          have R6b := hide (hownb.out.set X4 (by decide) (.slice A44 n44 c44))
          have Eb := hide (E.setCell (p := ⟨b4, 0, none⟩) hle4 (.slice A44 n44 c44))
          go_wp2
          refine bodyPost_ret (results_cell_tmp2 rfl _ _ b4 27 _ _ _ rfl Y4.out Tryd.underlying27 rfl (by kernel_rfl)) rfl ?_
          exact ⟨_, by rw [hv.out]; rfl, by rw [hv.out]; exact R6b.out, Eb.out⟩
end Go.Proofs.YtpfmbehhppbcnaaDoor
