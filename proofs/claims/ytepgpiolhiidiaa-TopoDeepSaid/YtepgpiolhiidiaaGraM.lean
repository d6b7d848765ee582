/- order.Merge returns, in new memory, the merging of two rows: the second one's head is taken only where it is less. -/
import Derived.Test.YtepgpiolhiidiaaGraB
namespace Go.Proofs.Ytepgpiolhiidiaa
open Go.RowKit


theorem mrg_step_lt {α : Type} {lt : α → α → Bool} {xs ys : List α} {p q : α} (hx : xs[0]? = some p) (hy : ys[0]? = some q) (h : lt q p = true) : mrg lt xs ys = q :: mrg lt xs (ys.drop 1) := by
  rw [cons_of_get hx, cons_of_get hy, mrg_lt _ _ _ _ h]; rfl
theorem mrg_step_ge {α : Type} {lt : α → α → Bool} {xs ys : List α} {p q : α} (hx : xs[0]? = some p) (hy : ys[0]? = some q) (h : lt q p = false) : mrg lt xs ys = p :: mrg lt (xs.drop 1) ys := by
  rw [cons_of_get hx, cons_of_get hy, mrg_ge _ _ _ _ h]; rfl
def lenV : Value → Nat | .slice _ n _ => n | _ => 0

set_option maxHeartbeats 2000000 in
theorem merge_Edge (A B : Option Addr) (n m c d : Nat) (xs ys : List (Int × Int × Int)) (w : World) (hn : n = xs.length) (hm : m = ys.length) (h : Rd edgeE w.heap.size w A xs) (h' : Rd edgeE w.heap.size w B ys)
    (hc : n ≤ c) (hd : m ≤ d) (hnb : n ≤ 1000000) (hmb : m ≤ 1000000) :
    Calls Try.prog 70 #[.slice A n c, .slice B m d, .func (.func 44) #[] #[]] w fun e w' => ∃ v, e = .returned v ∧ Own edgeE 50 w.heap.size w' v (mrg ltE xs ys) ∧ Ext w w' := by
  replace hn := hide hn
  replace hm := hide hm
  replace h := hide h
  replace h' := hide h'
  go_enter Try.func70, Try.ntmps70
  go_wp2
  go_step3
  go_wp2_with (at_make; refine wpList_make0 (base := w.heap.size) tyEdge rfl _ _ rfl (n := n + m) rfl rfl (by omega) (by omega) (Nat.le_refl _) ?_)
  intro w1 hown1 hg1
  have hB1 := grown_none hg1
  replace hown1 := hide hown1
  go_wp2
  go_step3
  go_wp2
  go_loopw [0, 1, 7] (fun a b o wr => ∃ (A' B' : Option Addr) (n' m' c' d' : Nat) (xs' ys' zs : List (Int × Int × Int)), a = .slice A' n' c' ∧ b = .slice B' m' d' ∧
      Hid (n' = xs'.length) ∧ Hid (m' = ys'.length) ∧ n' ≤ c' ∧ m' ≤ d' ∧ n' ≤ n ∧ m' ≤ m ∧ zs.length + (n' + m') ≤ n + m ∧ Hid (Rd edgeE w.heap.size w A' xs') ∧ Hid (Rd edgeE w.heap.size w B' ys') ∧
      Hid (Own edgeE 50 w.heap.size wr o zs) ∧ Hid (zs ++ mrg ltE xs' ys' = mrg ltE xs ys) ∧ Below w.heap.size w wr) (fun a b _ _ => lenV a + lenV b)
  case atStart => exact ⟨A, B, n, m, c, d, xs, ys, [], rfl, rfl, hn, hm, hc, hd, Nat.le_refl _, Nat.le_refl _, by simp, h, h', hown1, hide rfl, hB1⟩
  case round =>
    obtain ⟨A', B', n', m', c', d', xs', ys', zs, rfl, rfl, hn', hm', hc', hd', hnn, hmm, hz, hr, hr', hown, heq, hB⟩ := hrel
    obtain ⟨hcw, hfw⟩ := bcell hB
    have hsz := hB.size
    by_cases hx0 : n' = 0
    · have hxe : xs' = [] := List.eq_nil_of_length_eq_zero (by rw [← hn'.out]; exact hx0)
      replace hxe := hide hxe
      subst hx0
      go_wp2_with (at_builtin; refine wpList_app tyEdge rfl (.tmp 49) (.tmp 50) rfl rfl hown.out rfl (hr.out.below hB) hn'.out (by rw [← hn'.out]; omega) hsz ?_)
      intro v3 w3 hown3 hg3 hat3 hnil3
      have hB3 : Below w.heap.size w w3 := hown.out.below hB hg3 hsz
      replace hown3 := hide hown3
      clear hg3 hat3 hnil3
      go_wp2_with (at_builtin; refine wpList_app tyEdge rfl (.tmp 51) (.tmp 52) rfl rfl hown3.out rfl (hr'.out.below hB3) hm'.out (by rw [← hm'.out, List.length_append, ← hn'.out]; omega) hB3.size ?_)
      intro v4 w4 hown4 hg4 hat4 hnil4
      have hB4 : Below w.heap.size w w4 := hown3.out.below hB3 hg4 hB3.size
      replace hown4 := hide hown4
      clear hg4 hat4 hnil4
      go_wp2
      rw [Exit.noGoto_ret]
      go_ret
      refine ⟨v4, rfl, ?_, hB4⟩
      have h1 := hown4.out
      simp only [List.append_assoc, hxe.out, List.nil_append] at h1
      have h2 := heq.out
      rw [hxe.out, mrg_nil] at h2
      rw [← h2]
      exact h1
    by_cases hy0 : m' = 0
    · have hye : ys' = [] := List.eq_nil_of_length_eq_zero (by rw [← hm'.out]; exact hy0)
      replace hye := hide hye
      subst hy0
      have hx0' : ((n' : Int) == 0) = false := by simp; omega
      go_wp2_with (at_builtin; refine wpList_app tyEdge rfl (.tmp 49) (.tmp 50) rfl rfl hown.out rfl (hr.out.below hB) hn'.out (by rw [← hn'.out]; omega) hsz ?_)
      intro v3 w3 hown3 hg3 hat3 hnil3
      have hB3 : Below w.heap.size w w3 := hown.out.below hB hg3 hsz
      replace hown3 := hide hown3
      clear hg3 hat3 hnil3
      go_wp2_with (at_builtin; refine wpList_app tyEdge rfl (.tmp 51) (.tmp 52) rfl rfl hown3.out rfl (hr'.out.below hB3) hm'.out (by rw [← hm'.out, List.length_append, ← hn'.out]; omega) hB3.size ?_)
      intro v4 w4 hown4 hg4 hat4 hnil4
      have hB4 : Below w.heap.size w w4 := hown3.out.below hB3 hg4 hB3.size
      replace hown4 := hide hown4
      clear hg4 hat4 hnil4
      go_wp2
      rw [Exit.noGoto_ret]
      go_ret
      refine ⟨v4, rfl, ?_, hB4⟩
      have h1 := hown4.out
      simp only [List.append_assoc, hye.out, List.append_nil] at h1
      have h2 := heq.out
      rw [hye.out, mrg_nil'] at h2
      rw [← h2]
      exact h1
    have hxp : 0 < n' := by omega
    have hyp : 0 < m' := by omega
    have hx1' : (1 : Int) ≤ (n' : Int) := by omega
    have hy1' : (1 : Int) ≤ (m' : Int) := by omega
    have hx0' : ((n' : Int) == 0) = false := by simp; omega
    have hy0' : ((m' : Int) == 0) = false := by simp; omega
    go_wp2
    refine wp_region_mix (fun W => Below w.heap.size w W) [(0, true), (1, true), (2, true), (3, true), (4, true), (5, true), (6, true), (7, false), (8, true), (9, true)] (by kernel_rfl) (by kernel_rfl) (by kernel_rfl) (by kernel_rfl) (fun _ _ d _ _ h => by cases d <;> exact h) ?_ ?_
    · exact hB.drew
    obtain ⟨b, off, rfl, hra⟩ := hr.out.at_ (i := 0) (by rw [← hn'.out]; exact hxp)
    obtain ⟨b', off', rfl, hrb⟩ := hr'.out.at_ (i := 0) (by rw [← hm'.out]; exact hyp)
    have hb := hra.1
    have hb' := hrb.1
    obtain ⟨⟨p1, p2, p3⟩, hx⟩ := get_some (i := 0) (by rw [← hn'.out]; exact hxp)
    obtain ⟨hx1, hx2, hx3⟩ := hra.edge0 hx
    replace hx := hide hx
    obtain ⟨⟨q1, q2, q3⟩, hy⟩ := get_some (i := 0) (by rw [← hm'.out]; exact hyp)
    obtain ⟨hy1, hy2, hy3⟩ := hrb.edge0 hy
    replace hy := hide hy
    replace hra := hide hra
    replace hrb := hide hrb
    iterate 7
      apply mix_q rfl rfl
      · intro W hW
        have hcW := (bcell hW).1
        go_simp
        try exact rfl
      simp only [Act.put, List.setIfInBounds_toArray, List.set_cons_zero, List.set_cons_succ]
    refine mix_w rfl rfl (fun K hK => ?_)
    go_simp
    refine (compare_edge _ _ _ _ _ _ _).mono ?_
    rintro e w2 ⟨rfl, hE⟩
    refine hK _ _ ?_ ?_
    · exact hB.drew.trans (hE.mono (by simp; omega))
    have hB2 : Below w.heap.size w w2 := hB.drew.trans (hE.mono (by simp; omega))
    try simp only [Act.put, List.setIfInBounds_toArray, List.set_cons_zero, List.set_cons_succ]
    iterate 2
      apply mix_q rfl rfl
      · intro W hW
        have hcW := (bcell hW).1
        go_simp
        try exact rfl
      simp only [Act.put, List.setIfInBounds_toArray, List.set_cons_zero, List.set_cons_succ]
    refine mix_nil ?_
    have hown2 := hide ((hown.out.drew).ext hE)
    have hsz2 := hB2.size
    obtain ⟨hcw2, hfw2⟩ := bcell hB2
    by_cases hlt : cmpE (q1, q2, q3) (p1, p2, p3) < 0
    · have hl : ltE (q1, q2, q3) (p1, p2, p3) = true := by rw [← cmpE_lt]; simp [hlt]
      replace hl := hide hl
      go_wp2
      refine wp_region_mix (fun W => Below w.heap.size w W) [(0, true), (1, true), (2, true), (3, true), (6, true), (7, true), (4, false), (5, false), (8, true), (9, true)] (by kernel_rfl) (by kernel_rfl) (by kernel_rfl) (by kernel_rfl) (fun _ _ d _ _ h => by cases d <;> exact h) ?_ ?_
      · exact hB2.drew
      iterate 6
        apply mix_q rfl rfl
        · intro W hW
          have hcW := (bcell hW).1
          go_simp
          try exact rfl
        simp only [Act.put, List.setIfInBounds_toArray, List.set_cons_zero, List.set_cons_succ]
      refine mix_w rfl rfl (fun K hK => ?_)
      go_simp
      refine hK _ _ ?_ ?_
      · exact hB2.drew.alloc (by simpa using hsz2) _
      clear hK K
      try simp only [Act.put, List.setIfInBounds_toArray, List.set_cons_zero, List.set_cons_succ]
      refine mix_w rfl rfl (fun K hK => ?_)
      refine wp_app tyEdge _ _ rfl rfl (hown2.out.drew.alloc _) rfl (rd_new w2.drew (q1, q2, q3) _ rfl) rfl (by simp; omega) (by simp; omega) ?_
      intro v3 w3 hown3 hg3 hat3 hnil3
      have hB3 : Below w.heap.size w w3 := (hown2.out.drew.alloc _).below (hB2.drew.alloc (by simpa using hsz2) _) hg3 (by simp; omega)
      refine hK _ _ hB3 ?_
      clear hK K
      try simp only [Act.put, List.setIfInBounds_toArray, List.set_cons_zero, List.set_cons_succ]
      iterate 2
        apply mix_q rfl rfl
        · intro W hW
          have hcW := (bcell hW).1
          go_simp
          try exact rfl
        simp only [Act.put, List.setIfInBounds_toArray, List.set_cons_zero, List.set_cons_succ]
      refine mix_nil ?_
      replace hown3 := hide hown3
      clear hg3 hat3 hnil3
      go_wp2
      go_roundw
      case rel => exact ⟨_, _, _, _, _, _, xs', ys'.drop 1, zs ++ [(q1, q2, q3)], rfl, rfl, hn', hide (by rw [List.length_drop, ← hm'.out]), hc', by omega, hnn, by omega, by simp; omega, hr, hide (hrb.out.cut1 (by rw [← hm'.out]; exact hd')), hown3, hide (by rw [← heq.out, mrg_step_lt hx.out hy.out hl.out]; simp), hB3⟩
      case measure => simp [lenV]; omega
    · have hl : ltE (q1, q2, q3) (p1, p2, p3) = false := by rw [← cmpE_lt]; simp; omega
      replace hl := hide hl
      go_wp2
      refine wp_region_mix (fun W => Below w.heap.size w W) [(0, true), (1, true), (2, true), (3, true), (6, true), (7, true), (4, false), (5, false), (8, true), (9, true)] (by kernel_rfl) (by kernel_rfl) (by kernel_rfl) (by kernel_rfl) (fun _ _ d _ _ h => by cases d <;> exact h) ?_ ?_
      · exact hB2.drew
      iterate 6
        apply mix_q rfl rfl
        · intro W hW
          have hcW := (bcell hW).1
          go_simp
          try exact rfl
        simp only [Act.put, List.setIfInBounds_toArray, List.set_cons_zero, List.set_cons_succ]
      refine mix_w rfl rfl (fun K hK => ?_)
      go_simp
      refine hK _ _ ?_ ?_
      · exact hB2.drew.alloc (by simpa using hsz2) _
      clear hK K
      try simp only [Act.put, List.setIfInBounds_toArray, List.set_cons_zero, List.set_cons_succ]
      refine mix_w rfl rfl (fun K hK => ?_)
      refine wp_app tyEdge _ _ rfl rfl (hown2.out.drew.alloc _) rfl (rd_new w2.drew (p1, p2, p3) _ rfl) rfl (by simp; omega) (by simp; omega) ?_
      intro v3 w3 hown3 hg3 hat3 hnil3
      have hB3 : Below w.heap.size w w3 := (hown2.out.drew.alloc _).below (hB2.drew.alloc (by simpa using hsz2) _) hg3 (by simp; omega)
      refine hK _ _ hB3 ?_
      clear hK K
      try simp only [Act.put, List.setIfInBounds_toArray, List.set_cons_zero, List.set_cons_succ]
      iterate 2
        apply mix_q rfl rfl
        · intro W hW
          have hcW := (bcell hW).1
          go_simp
          try exact rfl
        simp only [Act.put, List.setIfInBounds_toArray, List.set_cons_zero, List.set_cons_succ]
      refine mix_nil ?_
      replace hown3 := hide hown3
      clear hg3 hat3 hnil3
      go_wp2
      go_roundw
      case rel => exact ⟨_, _, _, _, _, _, xs'.drop 1, ys', zs ++ [(p1, p2, p3)], rfl, rfl, hide (by rw [List.length_drop, ← hn'.out]), hm', by omega, hd', by omega, hmm, by simp; omega, hide (hra.out.cut1 (by rw [← hn'.out]; exact hc')), hr', hown3, hide (by rw [← heq.out, mrg_step_ge hx.out hy.out hl.out]; simp), hB3⟩
      case measure => simp [lenV]; omega
end Go.Proofs.Ytepgpiolhiidiaa
