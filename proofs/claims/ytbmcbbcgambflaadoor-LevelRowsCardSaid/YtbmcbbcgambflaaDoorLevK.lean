/- LevelBack: Read of Text is the level, Guarantees of Words the guarantees, and the other way round. -/
import Derived.Test.YtbmcbbcgambflaaDoorLevW
namespace Go.Proofs.YtbmcbbcgambflaaDoor
open Go.RowKit

theorem idx_from (s : ByteArray) : ∀ (l : List ByteArray) (i : Nat) (k : Int), Lib.idxFromS l s i = k → 0 ≤ k → ∃ j : Nat, k = i + j ∧ l[j]? = some s
  | [], i, k, h, h0 => by
    simp [Lib.idxFromS] at h
    omega
  | z :: l, i, k, h, h0 => by
    rw [Lib.idxFromS] at h
    split at h
    · rename_i hz
      exact ⟨0, by omega, by simp [hz]⟩
    · obtain ⟨j, hj, hl⟩ := idx_from s l (i + 1) k h h0
      exact ⟨j + 1, by omega, by simpa using hl⟩
theorem idx_at (l : List ByteArray) (s : ByteArray) (k : Nat) (h : Lib.idxOfS l s = (k : Int)) : l[k]? = some s := by
  obtain ⟨j, hj, hl⟩ := idx_from s l 0 k h (by omega)
  have : j = k := by omega
  rw [← this]
  exact hl
theorem lev_txt {n : Int} (h : lvl n = true) : lev (txt n) = n ∧ chk (idxT (txt n)) = 0 := by
  obtain ⟨h1, h2⟩ := lvl_of h
  have : n = 1 ∨ n = 2 ∨ n = 3 ∨ n = 4 := by omega
  rcases this with rfl | rfl | rfl | rfl <;> decide +kernel
theorem txt_lev {s : ByteArray} (h : lvl (idxT s) = true) : txt (lev s) = s ∧ chk (lev s) = 0 := by
  have hv : lev s = idxT s := by unfold lev; rw [if_pos h]
  obtain ⟨h1, h2⟩ := lvl_of h
  obtain ⟨k, hk⟩ : ∃ k : Nat, idxT s = k := ⟨(idxT s).toNat, by omega⟩
  have := idx_at tx s k hk
  rw [hv]
  refine ⟨?_, chk_in h⟩
  unfold txt
  rw [if_pos h, hk, Int.toNat_natCast, this]
  rfl
theorem gua_words : ∀ g, g < 16 → gua (wordsB g) = some g := by decide +kernel
set_option maxRecDepth 100000 in
set_option maxHeartbeats 4000000 in
theorem levelBack_any (n : Int) (s : ByteArray) (w : World) (hL : LaidAt w) :
    Calls Tryd.prog 4 #[.int .i64 n, .string s] w fun e w' => e = .returned (.bool true) ∧ Ext w w' := by
  replace hL := hide hL
  go_enter Tryd.func4, Tryd.ntmps4
  go_wp2_with fail
  refine (wakes_any _ hL.out).mono ?_
  rintro e w1 ⟨rfl, hB⟩
  go_wp2_with fail
  refine (text_any n _ (hL.out.ext hB)).mono ?_
  rintro e w2 ⟨rfl, rfl⟩
  cases hl : lvl n with
  | true =>
    obtain ⟨q1, q2⟩ := lev_txt hl
    rw [chk_in hl]
    replace q1 := hide q1
    replace q2 := hide q2
    replace hl := hide hl
    go_wp2_with fail
    refine (read_any _ _ (hL.out.ext hB)).mono ?_
    rintro e w2 ⟨rfl, rfl⟩
    rw [q1.out, q2.out]
    by_cases hin : n < 0 ∨ 15 < n
    · go_wp2_with fail
      refine (words_out n hin _).mono ?_
      rintro e w3 ⟨rfl, rfl⟩
      replace hin := hide hin
      go_wp2_with fail
      refine (read_any s _ (hL.out.ext hB)).mono ?_
      rintro e w5 ⟨rfl, rfl⟩
      cases hls : lvl (idxT s) with
      | true =>
        obtain ⟨t1, t2⟩ := txt_lev hls
        rw [chk_in hls]
        replace hls := hide hls
        replace t1 := hide t1
        replace t2 := hide t2
        generalize hlv : lev s = lv at *
        replace hlv := hide hlv
        go_wp2_with fail
        refine (text_any _ _ (hL.out.ext hB)).mono ?_
        rintro e w5 ⟨rfl, rfl⟩
        rw [t1.out, t2.out]
        clear t1 t2
        go_wp2_with fail
        refine (guar_any s _ (hL.out.ext hB)).mono ?_
        rintro e w5 ⟨rfl, hE5⟩
        replace hB := hB.trans (hE5.mono hB.size)
        clear hE5
        cases hg : gua s with
        | none =>
          have g1 : guaN s = 0 := by unfold guaN; rw [hg]
          have g2 : guaE s = 190 := by unfold guaE; rw [hg]
          rw [g1, g2]
          clear g1 g2
          replace hg := hide hg
          go_wp2
          go_ret
          exact ⟨rfl, hB⟩
        | some g =>
          have g1 : guaN s = g := by unfold guaN; rw [hg]
          have g2 : guaE s = 0 := by unfold guaE; rw [hg]
          obtain ⟨g3, g4⟩ := gua_some hg
          rw [g1, g2]
          clear g1 g2
          replace hg := hide hg
          replace g4 := hide g4
          go_wp2_with fail
          refine (words_in g g3 _ (hL.out.ext hB)).mono ?_
          rintro e w6 ⟨rfl, hE6⟩
          rw [g4.out]
          replace hB := hB.trans (hE6.mono hB.size)
          clear hE6
          go_wp2
          go_ret
          exact ⟨rfl, hB⟩
      | false =>
        rw [chk_out hls]
        replace hls := hide hls
        go_wp2_with fail
        refine (guar_any s _ (hL.out.ext hB)).mono ?_
        rintro e w5 ⟨rfl, hE5⟩
        replace hB := hB.trans (hE5.mono hB.size)
        clear hE5
        cases hg : gua s with
        | none =>
          have g1 : guaN s = 0 := by unfold guaN; rw [hg]
          have g2 : guaE s = 190 := by unfold guaE; rw [hg]
          rw [g1, g2]
          clear g1 g2
          replace hg := hide hg
          go_wp2
          go_ret
          exact ⟨rfl, hB⟩
        | some g =>
          have g1 : guaN s = g := by unfold guaN; rw [hg]
          have g2 : guaE s = 0 := by unfold guaE; rw [hg]
          obtain ⟨g3, g4⟩ := gua_some hg
          rw [g1, g2]
          clear g1 g2
          replace hg := hide hg
          replace g4 := hide g4
          go_wp2_with fail
          refine (words_in g g3 _ (hL.out.ext hB)).mono ?_
          rintro e w6 ⟨rfl, hE6⟩
          rw [g4.out]
          replace hB := hB.trans (hE6.mono hB.size)
          clear hE6
          go_wp2
          go_ret
          exact ⟨rfl, hB⟩
    · obtain ⟨g, hg⟩ : ∃ g : Nat, n = g := ⟨n.toNat, by omega⟩
      subst hg
      have hg16 : g < 16 := by omega
      have hgw := gua_words g hg16
      have u1 : guaN (wordsB g) = g := by unfold guaN; rw [hgw]
      have u2 : guaE (wordsB g) = 0 := by unfold guaE; rw [hgw]
      replace hgw := hide hgw
      replace u1 := hide u1
      replace u2 := hide u2
      clear hin
      go_wp2_with fail
      refine (words_in g hg16 _ (hL.out.ext hB)).mono ?_
      rintro e w3 ⟨rfl, hE3⟩
      replace hB := hB.trans (hE3.mono hB.size)
      clear hE3
      go_wp2_with fail
      refine (guar_any _ _ (hL.out.ext hB)).mono ?_
      rintro e w4 ⟨rfl, hE4⟩
      replace hB := hB.trans (hE4.mono hB.size)
      clear hE4
      rw [u1.out, u2.out]
      clear u1 u2
      go_wp2_with fail
      refine (read_any s _ (hL.out.ext hB)).mono ?_
      rintro e w5 ⟨rfl, rfl⟩
      cases hls : lvl (idxT s) with
      | true =>
        obtain ⟨t1, t2⟩ := txt_lev hls
        rw [chk_in hls]
        replace hls := hide hls
        replace t1 := hide t1
        replace t2 := hide t2
        generalize hlv : lev s = lv at *
        replace hlv := hide hlv
        go_wp2_with fail
        refine (text_any _ _ (hL.out.ext hB)).mono ?_
        rintro e w5 ⟨rfl, rfl⟩
        rw [t1.out, t2.out]
        clear t1 t2
        go_wp2_with fail
        refine (guar_any s _ (hL.out.ext hB)).mono ?_
        rintro e w5 ⟨rfl, hE5⟩
        replace hB := hB.trans (hE5.mono hB.size)
        clear hE5
        cases hg : gua s with
        | none =>
          have g1 : guaN s = 0 := by unfold guaN; rw [hg]
          have g2 : guaE s = 190 := by unfold guaE; rw [hg]
          rw [g1, g2]
          clear g1 g2
          replace hg := hide hg
          go_wp2
          go_ret
          exact ⟨rfl, hB⟩
        | some g =>
          have g1 : guaN s = g := by unfold guaN; rw [hg]
          have g2 : guaE s = 0 := by unfold guaE; rw [hg]
          obtain ⟨g3, g4⟩ := gua_some hg
          rw [g1, g2]
          clear g1 g2
          replace hg := hide hg
          replace g4 := hide g4
          go_wp2_with fail
          refine (words_in g g3 _ (hL.out.ext hB)).mono ?_
          rintro e w6 ⟨rfl, hE6⟩
          rw [g4.out]
          replace hB := hB.trans (hE6.mono hB.size)
          clear hE6
          go_wp2
          go_ret
          exact ⟨rfl, hB⟩
      | false =>
        rw [chk_out hls]
        replace hls := hide hls
        go_wp2_with fail
        refine (guar_any s _ (hL.out.ext hB)).mono ?_
        rintro e w5 ⟨rfl, hE5⟩
        replace hB := hB.trans (hE5.mono hB.size)
        clear hE5
        cases hg : gua s with
        | none =>
          have g1 : guaN s = 0 := by unfold guaN; rw [hg]
          have g2 : guaE s = 190 := by unfold guaE; rw [hg]
          rw [g1, g2]
          clear g1 g2
          replace hg := hide hg
          go_wp2
          go_ret
          exact ⟨rfl, hB⟩
        | some g =>
          have g1 : guaN s = g := by unfold guaN; rw [hg]
          have g2 : guaE s = 0 := by unfold guaE; rw [hg]
          obtain ⟨g3, g4⟩ := gua_some hg
          rw [g1, g2]
          clear g1 g2
          replace hg := hide hg
          replace g4 := hide g4
          go_wp2_with fail
          refine (words_in g g3 _ (hL.out.ext hB)).mono ?_
          rintro e w6 ⟨rfl, hE6⟩
          rw [g4.out]
          replace hB := hB.trans (hE6.mono hB.size)
          clear hE6
          go_wp2
          go_ret
          exact ⟨rfl, hB⟩
  | false =>
    rw [chk_out hl]
    replace hl := hide hl
    by_cases hin : n < 0 ∨ 15 < n
    · go_wp2_with fail
      refine (words_out n hin _).mono ?_
      rintro e w3 ⟨rfl, rfl⟩
      replace hin := hide hin
      go_wp2_with fail
      refine (read_any s _ (hL.out.ext hB)).mono ?_
      rintro e w5 ⟨rfl, rfl⟩
      cases hls : lvl (idxT s) with
      | true =>
        obtain ⟨t1, t2⟩ := txt_lev hls
        rw [chk_in hls]
        replace hls := hide hls
        replace t1 := hide t1
        replace t2 := hide t2
        generalize hlv : lev s = lv at *
        replace hlv := hide hlv
        go_wp2_with fail
        refine (text_any _ _ (hL.out.ext hB)).mono ?_
        rintro e w5 ⟨rfl, rfl⟩
        rw [t1.out, t2.out]
        clear t1 t2
        go_wp2_with fail
        refine (guar_any s _ (hL.out.ext hB)).mono ?_
        rintro e w5 ⟨rfl, hE5⟩
        replace hB := hB.trans (hE5.mono hB.size)
        clear hE5
        cases hg : gua s with
        | none =>
          have g1 : guaN s = 0 := by unfold guaN; rw [hg]
          have g2 : guaE s = 190 := by unfold guaE; rw [hg]
          rw [g1, g2]
          clear g1 g2
          replace hg := hide hg
          go_wp2
          go_ret
          exact ⟨rfl, hB⟩
        | some g =>
          have g1 : guaN s = g := by unfold guaN; rw [hg]
          have g2 : guaE s = 0 := by unfold guaE; rw [hg]
          obtain ⟨g3, g4⟩ := gua_some hg
          rw [g1, g2]
          clear g1 g2
          replace hg := hide hg
          replace g4 := hide g4
          go_wp2_with fail
          refine (words_in g g3 _ (hL.out.ext hB)).mono ?_
          rintro e w6 ⟨rfl, hE6⟩
          rw [g4.out]
          replace hB := hB.trans (hE6.mono hB.size)
          clear hE6
          go_wp2
          go_ret
          exact ⟨rfl, hB⟩
      | false =>
        rw [chk_out hls]
        replace hls := hide hls
        go_wp2_with fail
        refine (guar_any s _ (hL.out.ext hB)).mono ?_
        rintro e w5 ⟨rfl, hE5⟩
        replace hB := hB.trans (hE5.mono hB.size)
        clear hE5
        cases hg : gua s with
        | none =>
          have g1 : guaN s = 0 := by unfold guaN; rw [hg]
          have g2 : guaE s = 190 := by unfold guaE; rw [hg]
          rw [g1, g2]
          clear g1 g2
          replace hg := hide hg
          go_wp2
          go_ret
          exact ⟨rfl, hB⟩
        | some g =>
          have g1 : guaN s = g := by unfold guaN; rw [hg]
          have g2 : guaE s = 0 := by unfold guaE; rw [hg]
          obtain ⟨g3, g4⟩ := gua_some hg
          rw [g1, g2]
          clear g1 g2
          replace hg := hide hg
          replace g4 := hide g4
          go_wp2_with fail
          refine (words_in g g3 _ (hL.out.ext hB)).mono ?_
          rintro e w6 ⟨rfl, hE6⟩
          rw [g4.out]
          replace hB := hB.trans (hE6.mono hB.size)
          clear hE6
          go_wp2
          go_ret
          exact ⟨rfl, hB⟩
    · obtain ⟨g, hg⟩ : ∃ g : Nat, n = g := ⟨n.toNat, by omega⟩
      subst hg
      have hg16 : g < 16 := by omega
      have hgw := gua_words g hg16
      have u1 : guaN (wordsB g) = g := by unfold guaN; rw [hgw]
      have u2 : guaE (wordsB g) = 0 := by unfold guaE; rw [hgw]
      replace hgw := hide hgw
      replace u1 := hide u1
      replace u2 := hide u2
      clear hin
      go_wp2_with fail
      refine (words_in g hg16 _ (hL.out.ext hB)).mono ?_
      rintro e w3 ⟨rfl, hE3⟩
      replace hB := hB.trans (hE3.mono hB.size)
      clear hE3
      go_wp2_with fail
      refine (guar_any _ _ (hL.out.ext hB)).mono ?_
      rintro e w4 ⟨rfl, hE4⟩
      replace hB := hB.trans (hE4.mono hB.size)
      clear hE4
      rw [u1.out, u2.out]
      clear u1 u2
      go_wp2_with fail
      refine (read_any s _ (hL.out.ext hB)).mono ?_
      rintro e w5 ⟨rfl, rfl⟩
      cases hls : lvl (idxT s) with
      | true =>
        obtain ⟨t1, t2⟩ := txt_lev hls
        rw [chk_in hls]
        replace hls := hide hls
        replace t1 := hide t1
        replace t2 := hide t2
        generalize hlv : lev s = lv at *
        replace hlv := hide hlv
        go_wp2_with fail
        refine (text_any _ _ (hL.out.ext hB)).mono ?_
        rintro e w5 ⟨rfl, rfl⟩
        rw [t1.out, t2.out]
        clear t1 t2
        go_wp2_with fail
        refine (guar_any s _ (hL.out.ext hB)).mono ?_
        rintro e w5 ⟨rfl, hE5⟩
        replace hB := hB.trans (hE5.mono hB.size)
        clear hE5
        cases hg : gua s with
        | none =>
          have g1 : guaN s = 0 := by unfold guaN; rw [hg]
          have g2 : guaE s = 190 := by unfold guaE; rw [hg]
          rw [g1, g2]
          clear g1 g2
          replace hg := hide hg
          go_wp2
          go_ret
          exact ⟨rfl, hB⟩
        | some g =>
          have g1 : guaN s = g := by unfold guaN; rw [hg]
          have g2 : guaE s = 0 := by unfold guaE; rw [hg]
          obtain ⟨g3, g4⟩ := gua_some hg
          rw [g1, g2]
          clear g1 g2
          replace hg := hide hg
          replace g4 := hide g4
          go_wp2_with fail
          refine (words_in g g3 _ (hL.out.ext hB)).mono ?_
          rintro e w6 ⟨rfl, hE6⟩
          rw [g4.out]
          replace hB := hB.trans (hE6.mono hB.size)
          clear hE6
          go_wp2
          go_ret
          exact ⟨rfl, hB⟩
      | false =>
        rw [chk_out hls]
        replace hls := hide hls
        go_wp2_with fail
        refine (guar_any s _ (hL.out.ext hB)).mono ?_
        rintro e w5 ⟨rfl, hE5⟩
        replace hB := hB.trans (hE5.mono hB.size)
        clear hE5
        cases hg : gua s with
        | none =>
          have g1 : guaN s = 0 := by unfold guaN; rw [hg]
          have g2 : guaE s = 190 := by unfold guaE; rw [hg]
          rw [g1, g2]
          clear g1 g2
          replace hg := hide hg
          go_wp2
          go_ret
          exact ⟨rfl, hB⟩
        | some g =>
          have g1 : guaN s = g := by unfold guaN; rw [hg]
          have g2 : guaE s = 0 := by unfold guaE; rw [hg]
          obtain ⟨g3, g4⟩ := gua_some hg
          rw [g1, g2]
          clear g1 g2
          replace hg := hide hg
          replace g4 := hide g4
          go_wp2_with fail
          refine (words_in g g3 _ (hL.out.ext hB)).mono ?_
          rintro e w6 ⟨rfl, hE6⟩
          rw [g4.out]
          replace hB := hB.trans (hE6.mono hB.size)
          clear hE6
          go_wp2
          go_ret
          exact ⟨rfl, hB⟩
end Go.Proofs.YtbmcbbcgambflaaDoor
