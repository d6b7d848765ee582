/- LexStandsCardSaid: each token stands at its place, and between them there are only blanks and remarks, for every text (cut to its first 1500 bytes, as the statement says). No condition beside the card's own: the library's tables hold what their texts lay. -/
import Derived.Test.YtlianjnmfgakkaaDoorRows
import Derived.Test.YtlianjnmfgakkaaDoorCards
import Derived.Test.YtlianjnmfgakkaaDoorLaid10
import Derived.Test.YtlianjnmfgakkaaDoorOpenG
import Derived.Test.YtlianjnmfgakkaaDoorLexU
import Derived.SevenTiedAt
namespace Go.Proofs.YtlianjnmfgakkaaDoor
open Go Go.RowKit Go.ChangeShapes Go.WideShapes Go.ChangeAt
open Go.ChangeMaps (open_string shut_string)
theorem lexStands_walk (s1 : ByteArray) (w : World) (hs1 : s1.size ≤ maxLen) (hL : LaidU w) :
    Calls Tryd.prog 8 #[.string s1] w fun e w' => e = .returned (.bool true) ∧ Below w.heap.size w w' :=
  lexStands_any s1 w hs1 hL
set_option maxRecDepth 100000 in
theorem lifted_lexStands (os : Os) (started : os.Started) (H : Type) (enc : TypeId × Value → H) :
    ReturnsInHanded {} Tryd.checked os 8 .any (fun w args => (Rows.lexStandsSpec.pre enc Tryd.prog Tryd.f8 [] false w args ∧ laidMetH Tryd.prog laidL w) ∧ sizedMet enc Tryd.prog Tryd.f8 (OpenSpec.ofChange Rows.lexStandsSpec) false w args) (Rows.lexStandsSpec.post enc Tryd.prog Tryd.f8 false true false false) := by
  refine returnsInHanded_of_change_and (C := Tryd.checked) (X := fun w _ => laidMetH Tryd.prog laidL w) (fun _ _ _ hh h => h.of_heap hh) ownKnob_ started (by kernel_rfl) Tryd.func8
    (ChangeSpec.witness_shaped (enc := enc) (C := Tryd.checked) (os := os) (X := fun w _ => laidMetH Tryd.prog laidL w) false (World.laidAll Tryd.prog os laidL) #[.string ByteArray.empty] 8 (World.laidAll_os _ _ _) (World.shaped_of_ZipB (by kernel_rfl) (by kernel_rfl)) (by kernel_rfl) (by kernel_rfl) (by kernel_rfl) (door_met os _)) ?_
  intro W base args ds gs before hval0 hW _ _ hL _
  have hval : ∀ (j : Nat) t v, Tryd.f8.params[j]? = some t → args[j]? = some v → Value.okWide Tryd.prog W .any base t v := hval0
  have hW' := hW
  obtain ⟨p, q, hA0, hV, rfl, hfz, hnd⟩ := hW
  have hA : DataW.TrodAll enc Tryd.prog W 0 (fun _ => true) true Tryd.f8.params.toList args.toList ds p := hA0
  rw [Tryd.params8] at hA hval
  obtain ⟨v0, vs0, d0, ds0, p0, q0, hargs, rfl, rfl, h0, r0⟩ := trodAll_cons hA
  obtain ⟨rfl, rfl, rfl⟩ := trodAll_nil r0
  obtain rfl : args = #[v0] := by cases args; simp_all
  obtain ⟨rfl, rfl⟩ := trodVars_none hV
  obtain ⟨s0, rfl, rfl, rfl, w0⟩ := open_string (show Tryd.prog.underlying 9 = some .string by kernel_rfl) (hval 0 9 v0 rfl rfl) h0
  clear hA0 hval0
  refine (lexStands_walk s0 W w0 (of_laid hL)).mono fun e W' ⟨he, bel⟩ => ?_
  subst he
  exact ⟨_, rfl, _, _, _, [], _, [], hW', trodAll_mk1 (shut_bool (show Tryd.prog.underlying 4 = some .bool by kernel_rfl) _), (trodAll_cons_mk (shut_string (show Tryd.prog.underlying 9 = some .string by kernel_rfl) w0) trodAll_mk0), rfl, bel.frame _, fun h => by cases h⟩

theorem lexStands_holds : Rows.LexStandsSaid :=
  OpenClaim.holds_of_wide 8 Tryd.f8 rfl rfl rfl rfl rfl rfl rfl ⟨rfl, rfl, rfl, rfl, rfl⟩ rfl rfl rfl rfl rfl (by kernel_rfl) Tryd.func8 (by kernel_rfl)
    (of_decide_eq_true (by kernel_rfl)) (by unfold Func.isWrapper; first | (rw [if_pos (by decide +kernel)]; kernel_rfl) | (rw [if_neg (by decide +kernel)]; exact ⟨rfl, rfl⟩))
    (fun os started H enc _ => lifted_lexStands os started H enc)
theorem lexStands_card : Rows.LexStandsCardSaid :=
  Claim7.holds_tied_plain_at .later [] [.data, .pinned] true Rows.lexStandsCard.stood.harness false
    lexStands_holds (fun _ h => by cases h) (by kernel_rfl) (fun _ h => by cases h) lexStands_row_tie rfl ⟨rfl, rfl⟩ (by kernel_rfl) rfl
    (fun f fn hf hfn => by
      obtain rfl : f = 8 := Option.some.inj ((show Tryd.prog.funcNamed "yardarm/yardarmlaw02.LexStands" = some 8 by kernel_rfl).symm.trans hf) |>.symm
      obtain rfl : fn = Tryd.f8 := (Option.some.inj (Tryd.func8.symm.trans hfn)).symm
      exact ⟨by kernel_rfl, fun j t ht => by
        rw [Tryd.params8] at ht
        have hm : t ∈ [9] := by simpa using Array.mem_of_getElem? ht
        have hall : ([9].all fun u => !Tryd.prog.wantsStandIn u) = true := by kernel_rfl
        exact (show Tryd.prog.wantsStandIn t = false by simpa using List.all_eq_true.1 hall t hm)⟩)
    (by kernel_rfl)
#print axioms lexStands_card
end Go.Proofs.YtlianjnmfgakkaaDoor
