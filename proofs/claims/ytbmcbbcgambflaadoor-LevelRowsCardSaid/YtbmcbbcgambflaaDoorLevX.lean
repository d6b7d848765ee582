/- level.Uniform: a row of one level. -/
import Derived.Test.YtbmcbbcgambflaaDoorLevV
namespace Go.Proofs.YtbmcbbcgambflaaDoor
open Go.RowKit

def uniE (n l : Int) : Int := if n < 0 ∨ 1000 < n then 2 else chk l
def uniL (n l : Int) : List Int := if uniE n l = 0 then List.replicate n.toNat l else []
theorem uniform_any (n l : Int) (w : World) :
    Calls Tryd.prog 25 #[.int .i64 n, .int .i64 l] w fun e w' => ∃ v, e = .returned (.tuple #[v, .int .i64 (uniE n l)]) ∧ Own intE 3 w.heap.size w' v (uniL n l) ∧ Ext w w' := by
  by_cases h0 : n < 0
  · have hE : uniE n l = 2 := by unfold uniE; rw [if_pos (.inl h0)]
    have hL : uniL n l = [] := by unfold uniL; rw [hE]; rfl
    replace hE := hide hE
    replace hL := hide hL
    go_enter Tryd.func25, Tryd.ntmps25
    go_wp2
    go_ret2
    exact ⟨_, by rw [hE.out]; rfl, by rw [hL.out]; exact Own.nil_, Below.refl _ _⟩
  by_cases h1 : 1000 < n
  · have hE : uniE n l = 2 := by unfold uniE; rw [if_pos (.inr h1)]
    have hL : uniL n l = [] := by unfold uniL; rw [hE]; rfl
    replace hE := hide hE
    replace hL := hide hL
    go_enter Tryd.func25, Tryd.ntmps25
    go_wp2
    go_ret2
    exact ⟨_, by rw [hE.out]; rfl, by rw [hL.out]; exact Own.nil_, Below.refl _ _⟩
  obtain ⟨k, rfl⟩ : ∃ k : Nat, n = k := ⟨n.toNat, by omega⟩
  have hk : k ≤ 1000 := by omega
  have h1' : (k : Int) ≤ 1000 := by omega
  cases hl : lvl l with
  | false =>
    have hc := chk_out hl
    have hE : uniE k l = 190 := by unfold uniE; rw [if_neg (by omega), hc]
    have hL : uniL k l = [] := by unfold uniL; rw [hE]; rfl
    replace hE := hide hE
    replace hL := hide hL
    replace hl := hide hl
    replace hc := hide hc
    go_enter Tryd.func25, Tryd.ntmps25
    go_wp2_with fail
    refine (check_any l _).mono ?_
    rintro e w1 ⟨rfl, rfl⟩
    rw [hc.out]
    go_wp2
    go_ret2
    exact ⟨_, by rw [hE.out]; rfl, by rw [hL.out]; exact Own.nil_, Below.refl _ _⟩
  | true =>
    have hc := chk_in hl
    have hE : uniE k l = 0 := by unfold uniE; rw [if_neg (by omega), hc]
    have hL : uniL k l = List.replicate k l := by unfold uniL; rw [if_pos hE]; rfl
    replace hE := hide hE
    replace hL := hide hL
    replace hl := hide hl
    replace hc := hide hc
    have hB0 : Ext w (w.alloc (.cells #[.int .i64 l] 3)) := (Below.refl _ _).alloc (Nat.le_refl _) _
    go_enter Tryd.func25, Tryd.ntmps25
    go_wp2_with fail
    refine (check_any l _).mono ?_
    rintro e w1 ⟨rfl, rfl⟩
    rw [hc.out]
    go_wp2_with fail
    refine (repeat_any _ _ _ _ _ hk (rd_lit _ l _ rfl)).mono ?_
    rintro e w2 ⟨v, rfl, hO, hB⟩
    obtain ⟨A2, c2, rfl, -, -, -⟩ := hO.rd
    rw [List.length_replicate] at hO ⊢
    replace hO := hide hO
    go_wp2
    go_ret2
    exact ⟨_, by rw [hE.out]; rfl, by rw [hL.out]; exact hO.out.base_le hB0.size, hB0.trans (hB.mono hB0.size)⟩
end Go.Proofs.YtbmcbbcgambflaaDoor
