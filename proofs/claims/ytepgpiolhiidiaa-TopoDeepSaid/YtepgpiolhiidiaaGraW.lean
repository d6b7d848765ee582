/- The stage wakes. -/
import Derived.Test.YtepgpiolhiidiaaGraT
namespace Go.Proofs.Ytepgpiolhiidiaa
open Go.RowKit

set_option maxHeartbeats 1000000 in
theorem equalI_any (A1 A2 : Option Addr) (n1 c1 n2 c2 : Nat) (xs ys : List Int) (w : World) (h1 : Rd intE w.heap.size w A1 xs) (h2 : Rd intE w.heap.size w A2 ys) (hn1 : n1 = xs.length) (hn2 : n2 = ys.length) (hl1 : n1 ≤ 1000000) :
    Calls Try.prog 19 #[.slice A1 n1 c1, .slice A2 n2 c2] w fun e w' => e = .returned (.bool (decide (xs = ys))) ∧ Ext w w' := by
  by_cases hlen : n1 = n2
  · subst hlen
    have hlen2 : Hid (xs.length = ys.length) := hide (hn1.symm.trans hn2)
    replace h1 := hide h1
    replace h2 := hide h2
    replace hn1 := hide hn1
    replace hn2 := hide hn2
    go_enter Try.func19, Try.ntmps19
    go_wp2
    go_loopw [13] (fun i wr => ∃ k : Nat, k ≤ n1 ∧ i = .int .i64 k ∧ Hid (xs.take k = ys.take k) ∧ Ext w wr) (fun i _ => n1 - (intOf i).toNat)
    case atStart => exact ⟨0, Nat.zero_le _, rfl, hide rfl, Below.refl _ _⟩
    case round =>
      obtain ⟨k, hk, rfl, hsame, hB⟩ := hrel
      obtain ⟨hcc, hff⟩ := bcell hB
      have hsz := hB.size
      by_cases hlt : k < n1
      · obtain ⟨b1, o1, rfl, ra1⟩ := h1.out.at_ (i := k) (by rw [← hn1.out]; exact hlt)
        obtain ⟨b2, o2, rfl, ra2⟩ := h2.out.at_ (i := k) (by rw [← hn2.out]; exact hlt)
        have hb1 := ra1.1
        have hb2 := ra2.1
        obtain ⟨p1, hp1⟩ := get_some (xs := xs) (i := k) (by rw [← hn1.out]; exact hlt)
        obtain ⟨p2, hp2⟩ := get_some (xs := ys) (i := k) (by rw [← hn2.out]; exact hlt)
        have hx1 := ra1.int hp1
        have hx2 := ra2.int hp2
        by_cases he : p1 = p2
        · skip
          have hsame2 : Hid (xs.take (k + 1) = ys.take (k + 1)) := hide (by rw [take_snoc hp1, take_snoc hp2, hsame.out, he])
          subst he
          replace hp1 := hide hp1
          replace hp2 := hide hp2
          replace ra1 := hide ra1
          replace ra2 := hide ra2
          go_wp2
          refine wp_region_reads [(0, true), (1, true), (2, true), (3, true), (4, true), (5, true), (6, true), (7, true), (8, true)] (by kernel_rfl) (by kernel_rfl) (by kernel_rfl) (by kernel_rfl) (fun _ _ d _ _ h => by cases d <;> exact h) ?_
          iterate 9
            apply mix_q rfl rfl
            · intro W hW
              subst hW
              go_simp
              try exact rfl
            simp only [Act.put, List.setIfInBounds_toArray, List.set_cons_zero, List.set_cons_succ]
          refine mix_nil ?_
          go_wp2
          refine ⟨?_, ?_⟩
          · first
              | exact ⟨k + 1, by omega, by go_num, hsame2, hB.drew⟩
              | ((repeat apply Exists.intro); exact ⟨⟨k + 1, by omega, by go_num, hsame2, hB.drew⟩, rfl⟩)
          · first | (simp [intOf, lenV]; omega) | (simp [intOf]; omega) | (simp [intOf]; done)
        · have hne : Hid (decide (xs = ys) = false) := hide (decide_eq_false (fun h => by subst h; rw [hp1] at hp2; injection hp2 with hp2; exact he hp2))
          have he' : ((p1 : Int) == (p2 : Int)) = false := by rw [beq_eq_false_iff_ne]; omega
          replace he := hide he
          replace hp1 := hide hp1
          replace hp2 := hide hp2
          replace ra1 := hide ra1
          replace ra2 := hide ra2
          go_wp2
          refine wp_region_reads [(0, true), (1, true), (2, true), (3, true), (4, true), (5, true), (6, true), (7, true), (8, true)] (by kernel_rfl) (by kernel_rfl) (by kernel_rfl) (by kernel_rfl) (fun _ _ d _ _ h => by cases d <;> exact h) ?_
          iterate 9
            apply mix_q rfl rfl
            · intro W hW
              subst hW
              go_simp
              try exact rfl
            simp only [Act.put, List.setIfInBounds_toArray, List.set_cons_zero, List.set_cons_succ]
          refine mix_nil ?_
          go_wp2
          go_ret
          exact ⟨by rw [hne.out]; rfl, hB.drew⟩
      · obtain hkn : k = n1 := by omega
        have hfin : Hid (decide (xs = ys) = true) := hide (decide_eq_true (by
          have h := hsame.out
          rw [hkn, hn1.out, List.take_length, hlen2.out, List.take_length] at h
          exact h))
        subst hkn
        go_wp2
        go_ret
        exact ⟨by rw [hfin.out]; rfl, hB⟩
  · have hne : Hid (decide (xs = ys) = false) := hide (decide_eq_false (fun h => hlen (by rw [hn1, hn2, h])))
    have hlen' : ((n1 : Int) == (n2 : Int)) = false := by rw [beq_eq_false_iff_ne]; omega
    replace hlen := hide hlen
    replace h1 := hide h1
    replace h2 := hide h2
    replace hn1 := hide hn1
    replace hn2 := hide hn2
    go_enter Try.func19, Try.ntmps19
    go_wp2
    go_ret
    exact ⟨by rw [hne.out]; rfl, Below.refl _ _⟩
theorem rdO {α : Type} {E : El α} {e : TypeId} {base : Nat} {w : World} {A : Option Addr} {n c : Nat} {xs : List α} (h : Own E e base w (.slice A n c) xs) : Rd E w.heap.size w A xs := by
  obtain ⟨A', c', heq, hr, -, -⟩ := h.rd
  injection heq with h1
  subst h1
  exact hr
theorem ofE_small : ofE smallL = [(0, 1, 0), (0, 1, 2), (1, 2, 1)] := by decide
theorem okOf_small : okOf 3 smallL = true := by decide
theorem right_small : rightG 3 [(0, 1, 0), (0, 1, 2), (1, 2, 1)] = true := by decide
theorem starts_small : startL 3 [(0, 1, 0), (0, 1, 2), (1, 2, 1)] = [0, 2, 3, 3] := by decide
theorem ask_small : askE 3 [(0, 1, 0), (0, 1, 2), (1, 2, 1)] [3] = 2 := by decide
end Go.Proofs.Ytepgpiolhiidiaa
