/- level.With: a row with another level at a place. -/
import Derived.Test.YtbmcbbcgambflaaDoorLevO
namespace Go.Proofs.YtbmcbbcgambflaaDoor
open Go.RowKit

theorem clone_any (A : Option Addr) (n c : Nat) (xs : List Int) (w : World) (hn : n = xs.length) (hl : n ≤ 1000000) (h : Rd intE w.heap.size w A xs) :
    Calls Tryd.prog 32 #[.slice A n c] w fun e w' => ∃ v, e = .returned v ∧ Own intE 3 w.heap.size w' v xs ∧ Ext w w' := by
  by_cases h0 : n = 0
  · subst h0
    have hx : xs = [] := List.eq_nil_of_length_eq_zero hn.symm
    subst hx
    cases A with
    | none =>
      refine (Tryd.slices_Clone_int_nil _ _ _).mono ?_
      rintro e w1 ⟨rfl, rfl⟩
      exact ⟨_, rfl, Own.nil_, Below.refl _ _⟩
    | some a =>
      refine (Tryd.slices_Clone_int_zero _ _ _).mono ?_
      rintro e w1 ⟨v, rfl, hO, -, hB⟩
      exact ⟨_, rfl, hO, hB⟩
  · obtain ⟨b, off, rfl, hra⟩ := h.at_ (i := 0) (by rw [← hn]; omega)
    refine (Tryd.slices_Clone_int b off n c xs w (by omega) (by omega) (fun j hj => hra.int (by rw [List.getD, List.getElem?_eq_getElem hj]; rfl))).mono ?_
    rintro e w1 ⟨v, rfl, hO, -, hB⟩
    refine ⟨v, rfl, ?_, hB⟩
    unfold Own
    rw [intE_row, ← hn]
    rw [hn, List.take_length] at hO
    rw [hn]
    exact hO
/-- one element of a row of integers of the call's own, stored anew -/
theorem Own.setInt {e : TypeId} {base : Nat} {w : World} {A : Option Addr} {n c : Nat} {xs : List Int} (h : Own intE e base w (.slice A n c) xs) {i : Nat} (hi : i < n) (x : Int) :
    ∃ g u, A = some ⟨g, 0, none⟩ ∧ base ≤ g ∧ g < w.heap.size ∧ w.cell? ⟨g, i, none⟩ = some u ∧ w.frozen? ⟨g, i, none⟩ = false ∧ Own intE e base (w.setCell ⟨g, i, none⟩ (.int .i64 x)) (.slice A n c) (xs.set i x) := by
  obtain ⟨hl, h2⟩ := h
  rcases h2 with ⟨h1, h2⟩ | ⟨g, cap, cur, h1, hb, hg, hnc, hcm, hsz, hcur⟩
  · injection h1 with h3 h4 h5
    omega
  · injection h1 with h3 h4 h5
    subst h3 h5
    have hgs : g < w.heap.size := by
      rcases Nat.lt_or_ge g w.heap.size with hlt | hge
      · exact hlt
      · rw [Array.getElem?_eq_none hge] at hg
        cases hg
    have hic : i < cur.size := by rw [hsz]; show i < _ * 1; omega
    refine ⟨g, cur[i], rfl, hb, hgs, ?_, ?_, ?_⟩
    · unfold World.cell?
      rw [hg]
      simp [hic]
    · unfold World.frozen?
      rw [hg]
      simp
    unfold Own
    rw [List.length_set]
    refine ⟨by rw [intE_row, List.length_map, List.length_set]; show _ = _ * 1; omega, .inr ⟨g, c, cur.setIfInBounds i (.int .i64 x), by rw [h4], hb, ?_, by omega, hcm, by rw [Array.size_setIfInBounds]; exact hsz, ?_⟩⟩
    · show (w.heap.modify g _)[g]? = _
      rw [Array.getElem?_modify, if_pos rfl, hg]
      rfl
    · rw [Array.toList_setIfInBounds, List.take_set, hcur, intE_row, intE_row, List.map_set]
theorem rd_lit (w : World) (x : Int) (b : Nat) (hb : w.heap.size = b) : Rd intE (w.alloc (.cells #[.int .i64 x] 3)).heap.size (w.alloc (.cells #[.int .i64 x] 3)) (some ⟨b, 0, none⟩) [x] := by
  subst hb
  refine .inr ⟨w.heap.size, 0, rfl, by simp, fun i z hz j u hu => ?_⟩
  match i, j, hz, hu with
  | 0, 0, hz, hu => simp at hz; subst hz; simp [intE] at hu; subst hu; simp [intE]
def withE (xs : List Int) (i l : Int) : Int := if chk2 xs [l] = 0 then (if 0 ≤ i ∧ i < xs.length then 0 else 2) else 190
def withL (xs : List Int) (i l : Int) : List Int := if withE xs i l = 0 then xs.set i.toNat l else []
set_option maxHeartbeats 4000000 in
theorem with_any (A : Option Addr) (n c : Nat) (xs : List Int) (i l : Int) (w : World) (hn : n = xs.length) (hl : n ≤ 1000000) (h : Rd intE w.heap.size w A xs) :
    Calls Tryd.prog 26 #[.slice A n c, .int .i64 i, .int .i64 l] w fun e w' => ∃ v, e = .returned (.tuple #[v, .int .i64 (withE xs i l)]) ∧ Own intE 3 w.heap.size w' v (withL xs i l) ∧ Ext w w' := by
  replace hn := hide hn
  obtain ⟨wa, hwa⟩ : ∃ wa, wa = (w.alloc (.cells #[.int .i64 l] 3)).alloc (.cells #[.slice A n c, .slice (some ⟨w.heap.size, 0, none⟩) 1 1] 22) := ⟨_, rfl⟩
  have hE1 : Ext w (w.alloc (.cells #[.int .i64 l] 3)) := (Below.refl _ _).alloc (Nat.le_refl _) _
  have hEa : Ext w wa := by rw [hwa]; exact hE1.alloc (by simp) _
  have hEb : Ext (w.alloc (.cells #[.int .i64 l] 3)) wa := by rw [hwa]; exact (Below.refl _ _).alloc (Nat.le_refl _) _
  have hC := checks_any (w.heap.size + 1) A (some ⟨w.heap.size, 0, none⟩) n c 1 1 xs [l] wa (by rw [hwa]; simp) (by rw [hwa]; simp) (by rw [hwa]; simp) (h.ext hEa) ((rd_lit w l _ rfl).ext hEb) hn.out rfl hl (by decide)
  rw [hwa] at hC
  replace hC := hide hC
  have r1 := hide (h.ext hEa)
  clear hE1 hEb h
  replace hwa := hide hwa
  go_enter Tryd.func26, Tryd.ntmps26
  go_wp2_with fail
  refine hC.out.mono ?_
  rintro e w1 ⟨rfl, hw1⟩
  rw [← hwa.out] at hw1
  subst hw1
  clear hC
  have hsa := hEa.size
  rcases chk2_or xs [l] with hch | hch
  · rw [hch]
    by_cases hi : 0 ≤ i ∧ i < n
    · have hE : withE xs i l = 0 := by unfold withE; rw [if_pos hch, if_pos (by rw [← hn.out]; exact hi)]
      have hLl : withL xs i l = xs.set i.toNat l := by unfold withL; rw [if_pos hE]
      obtain ⟨k, rfl⟩ : ∃ k : Nat, i = k := ⟨i.toNat, by omega⟩
      have hk : k < n := by omega
      have hki : (k : Int) < (n : Int) := by omega
      replace hch := hide hch
      replace hE := hide hE
      replace hLl := hide hLl
      clear hi
      go_wp2_with fail
      refine (clone_any A n c xs _ hn.out hl r1.out).mono ?_
      rintro e w2 ⟨v, rfl, hO, hE2⟩
      obtain ⟨A2, c2, rfl, -, hcc, -⟩ := hO.rd
      rw [← hn.out] at hO hcc ⊢
      obtain ⟨g, u, rfl, hg1, hg2, hg3, hg4, hS⟩ := hO.setInt hk l
      have hB := hEa.trans (hE2.mono hsa)
      replace hS := hide hS
      clear hO hE2
      go_wp2
      go_ret2
      exact ⟨_, by rw [hE.out]; rfl, by rw [hLl.out]; exact hS.out.base_le hsa, hB.setCell (by show w.heap.size ≤ g; omega) _⟩
    · have hE : withE xs i l = 2 := by unfold withE; rw [if_pos hch, if_neg (by rw [← hn.out]; exact hi)]
      have hLl : withL xs i l = [] := by unfold withL; rw [hE]; rfl
      replace hch := hide hch
      replace hE := hide hE
      replace hLl := hide hLl
      by_cases h0 : i < 0
      · go_wp2
        go_ret2
        exact ⟨_, by rw [hE.out]; rfl, by rw [hLl.out]; exact Own.nil_, hEa⟩
      · have h1 : ¬ (i < (n : Int)) := by omega
        go_wp2
        go_ret2
        exact ⟨_, by rw [hE.out]; rfl, by rw [hLl.out]; exact Own.nil_, hEa⟩
  · have hE : withE xs i l = 190 := by unfold withE; rw [if_neg (by rw [hch]; decide)]
    have hLl : withL xs i l = [] := by unfold withL; rw [hE]; rfl
    rw [hch]
    replace hch := hide hch
    replace hE := hide hE
    replace hLl := hide hLl
    go_wp2
    go_ret2
    exact ⟨_, by rw [hE.out]; rfl, by rw [hLl.out]; exact Own.nil_, hEa⟩
end Go.Proofs.YtbmcbbcgambflaaDoor
