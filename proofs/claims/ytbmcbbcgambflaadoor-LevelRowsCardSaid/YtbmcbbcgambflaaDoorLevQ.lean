/- The document's answers for rows of levels: All, Below. -/
import Derived.Test.YtbmcbbcgambflaaDoorLevR
import Derived.Test.YtbmcbbcgambflaaDoorLevP
namespace Go.Proofs.YtbmcbbcgambflaaDoor
open Go.RowKit

theorem refAll_any (A : Option Addr) (n c : Nat) (xs : List Int) (w : World) (h : Rd intE w.heap.size w A xs) (hn : n = xs.length) (hl : n ≤ 1000000) :
    Calls Tryd.prog 27 #[.slice A n c] w fun e w' => e = .returned (.bool (allL xs)) ∧ w' = w := by
  replace h := hide h
  replace hn := hide hn
  go_enter Tryd.func27, Tryd.ntmps27
  go_wp2
  go_loopw [7] (fun i wr => ∃ k : Nat, k ≤ n ∧ i = .int .i64 k ∧ Hid (∀ x ∈ xs.take k, lvl x = true) ∧ wr = w) (fun i _ => n - (intOf i).toNat)
  case atStart => exact ⟨0, Nat.zero_le _, rfl, hide (by simp), rfl⟩
  case round =>
    obtain ⟨k, hk, rfl, hall, rfl⟩ := hrel
    by_cases hlt : k < n
    · obtain ⟨b, off, rfl, hra⟩ := h.out.at_ (i := k) (by rw [← hn.out]; exact hlt)
      have hb1 := hra.1
      obtain ⟨p, hp⟩ := get_some (xs := xs) (i := k) (by rw [← hn.out]; exact hlt)
      have hp1 := hra.int hp
      replace hra := hide hra
      cases hlv : lvl p with
      | true =>
        have hall' := hide (all_take hall.out hp hlv)
        replace hp := hide hp
        replace hlv := hide hlv
        go_wp2_with fail
        refine (right_any p _).mono ?_
        rintro e w1 ⟨rfl, rfl⟩
        rw [hlv.out]
        go_wp2
        refine ⟨?_, ?_⟩
        · first
            | exact ⟨k + 1, by omega, by go_num, hall', trivial⟩
            | ((repeat apply Exists.intro); exact ⟨⟨k + 1, by omega, by go_num, hall', trivial⟩, rfl⟩)
        · first | (simp [intOf, lenV]; omega) | (simp [intOf]; omega) | (simp [intOf]; done)
      | false =>
        have hna := not_all hp hlv
        replace hp := hide hp
        replace hlv := hide hlv
        replace hna := hide hna
        go_wp2_with fail
        refine (right_any p _).mono ?_
        rintro e w1 ⟨rfl, rfl⟩
        rw [hlv.out]
        go_wp2
        go_ret
        exact ⟨by rw [hna.out]; rfl, rfl⟩
    · obtain hkn : k = n := by omega
      have hfull : allL xs = true := all_full (by rw [← hn.out, ← hkn]; exact hall.out)
      replace hfull := hide hfull
      subst hkn
      go_wp2
      go_ret
      exact ⟨by rw [hfull.out]; rfl, rfl⟩
/-- below, as a truth value -/
def leB : List Int → List Int → Bool
  | x :: xs, y :: ys => decide (x ≤ y) && leB xs ys
  | _, _ => true
theorem leB_at : ∀ {xs ys : List Int}, leB xs ys = true ↔ ∀ (i : Nat) (x y : Int), xs[i]? = some x → ys[i]? = some y → x ≤ y
  | [], _ => by simp [leB]
  | _ :: _, [] => by simp [leB]
  | x :: xs, y :: ys => by
    rw [leB, Bool.and_eq_true, decide_eq_true_iff, leB_at (xs := xs) (ys := ys)]
    constructor
    · rintro ⟨h1, h2⟩ i a b ha hb
      cases i with
      | zero => simp at ha hb; omega
      | succ i => exact h2 i a b (by simpa using ha) (by simpa using hb)
    · intro h
      exact ⟨h 0 x y rfl rfl, fun i a b ha hb => h (i + 1) a b (by simpa using ha) (by simpa using hb)⟩
theorem refBelow_any (A1 A2 : Option Addr) (n1 c1 n2 c2 : Nat) (xs ys : List Int) (w : World) (h1 : Rd intE w.heap.size w A1 xs) (h2 : Rd intE w.heap.size w A2 ys) (hn1 : n1 = xs.length) (hn2 : n2 = ys.length) (hl1 : n1 ≤ 1000000) (hl2 : n1 = n2) :
    Calls Tryd.prog 28 #[.slice A1 n1 c1, .slice A2 n2 c2] w fun e w' => e = .returned (.bool (leB xs ys)) ∧ Ext w w' := by
  subst hl2
  replace h1 := hide h1
  replace h2 := hide h2
  replace hn1 := hide hn1
  replace hn2 := hide hn2
  go_enter Tryd.func28, Tryd.ntmps28
  go_wp2
  go_loopw [8] (fun i wr => ∃ k : Nat, k ≤ n1 ∧ i = .int .i64 k ∧ Hid (∀ (i : Nat) (x y : Int), i < k → xs[i]? = some x → ys[i]? = some y → x ≤ y) ∧ Ext w wr) (fun i _ => n1 - (intOf i).toNat)
  case atStart => exact ⟨0, Nat.zero_le _, rfl, hide (fun i x y hi => by omega), Below.refl _ _⟩
  case round =>
    obtain ⟨k, hk, rfl, hall, hB⟩ := hrel
    obtain ⟨hcc, hff⟩ := bcell hB
    have hsz := hB.size
    by_cases hlt : k < n1
    · obtain ⟨b1, o1, rfl, ra1⟩ := h1.out.at_ (i := k) (by rw [← hn1.out]; exact hlt)
      obtain ⟨b2, o2, rfl, ra2⟩ := h2.out.at_ (i := k) (by rw [← hn2.out]; exact hlt)
      have hb1 := ra1.1
      have hb2 := ra2.1
      obtain ⟨p1, hp1⟩ := get_some (xs := xs) (i := k) (by rw [← hn1.out]; exact hlt)
      obtain ⟨p2, hp2⟩ := get_some (xs := ys) (i := k) (by rw [← hn2.out]; exact hlt)
      have hx1 := ra1.int hp1
      have hx2 := ra2.int hp2
      replace ra1 := hide ra1
      replace ra2 := hide ra2
      by_cases hgt : p2 < p1
      · have hfin : leB xs ys = false := by
          rw [Bool.eq_false_iff]
          intro hc
          have := leB_at.1 hc k p1 p2 hp1 hp2
          omega
        replace hp1 := hide hp1
        replace hp2 := hide hp2
        replace hfin := hide hfin
        go_wp2
        refine wp_region_reads [(0, true), (1, true), (2, true), (3, true), (4, true), (5, true), (6, true), (7, true), (8, true)] (by kernel_rfl) (by kernel_rfl) (by kernel_rfl) (by kernel_rfl) (fun _ _ d _ _ h => by cases d <;> exact h) ?_
        iterate 9
          apply mix_q rfl rfl
          · intro W hW
            subst hW
            go_simp
            try exact rfl
          simp only [Act.put, List.setIfInBounds_toArray, List.set_cons_zero, List.set_cons_succ]
        refine mix_nil ?_
        go_wp2
        go_ret
        exact ⟨by rw [hfin.out]; rfl, hB.drew⟩
      · have hall' : Hid (∀ (i : Nat) (x y : Int), i < k + 1 → xs[i]? = some x → ys[i]? = some y → x ≤ y) := hide (by
          intro i x y hi hx hy
          by_cases hik : i = k
          · subst hik
            rw [hp1] at hx
            rw [hp2] at hy
            injection hx with hx
            injection hy with hy
            omega
          · exact hall.out i x y (by omega) hx hy)
        replace hp1 := hide hp1
        replace hp2 := hide hp2
        go_wp2
        refine wp_region_reads [(0, true), (1, true), (2, true), (3, true), (4, true), (5, true), (6, true), (7, true), (8, true)] (by kernel_rfl) (by kernel_rfl) (by kernel_rfl) (by kernel_rfl) (fun _ _ d _ _ h => by cases d <;> exact h) ?_
        iterate 9
          apply mix_q rfl rfl
          · intro W hW
            subst hW
            go_simp
            try exact rfl
          simp only [Act.put, List.setIfInBounds_toArray, List.set_cons_zero, List.set_cons_succ]
        refine mix_nil ?_
        go_wp2
        refine ⟨?_, ?_⟩
        · first
            | exact ⟨k + 1, by omega, by go_num, hall', hB.drew⟩
            | ((repeat apply Exists.intro); exact ⟨⟨k + 1, by omega, by go_num, hall', hB.drew⟩, rfl⟩)
        · first | (simp [intOf, lenV]; omega) | (simp [intOf]; omega) | (simp [intOf]; done)
    · obtain hkn : k = n1 := by omega
      have hfin : leB xs ys = true := leB_at.2 fun i x y hx hy => hall.out i x y (by
        rw [hkn, hn1.out]
        rcases Nat.lt_or_ge i xs.length with hlt | hge
        · exact hlt
        · rw [List.getElem?_eq_none hge] at hx
          cases hx) hx hy
      replace hfin := hide hfin
      subst hkn
      go_wp2
      go_ret
      exact ⟨by rw [hfin.out]; rfl, hB⟩
end Go.Proofs.YtbmcbbcgambflaaDoor
