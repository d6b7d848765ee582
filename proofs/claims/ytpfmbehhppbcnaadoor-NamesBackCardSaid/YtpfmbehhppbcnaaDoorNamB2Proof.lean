/- NamesBackCardSaid: a table's names, put one by one, are the table; put twice a name changes nothing; for every table and text. No condition beside the card's own: the library's tables hold what their texts lay. -/
import Derived.Test.YtpfmbehhppbcnaaDoorRows
import Derived.Test.YtpfmbehhppbcnaaDoorCards
import Derived.Test.YtpfmbehhppbcnaaDoorLaid10
import Derived.Test.YtpfmbehhppbcnaaDoorOpenH
import Derived.Test.YtpfmbehhppbcnaaDoorNamB2
import Derived.SevenTiedAt
namespace Go.Proofs.YtpfmbehhppbcnaaDoor
open Go Go.RowKit Go.ChangeShapes Go.WideShapes Go.ChangeAt
open Go.ChangeMaps (open_string shut_string)
theorem namesBack_walk (A1 : Option Addr) (n1 c1 : Nat) (xs : List ByteArray) (s : ByteArray) (w : World)
    (hn1 : n1 = xs.length) (hc1 : n1 ≤ c1 ∧ c1 ≤ maxLen) (h1 : Rd strE w.heap.size w A1 xs) (hf1 : ∀ x ∈ xs, x.size ≤ maxLen) (hs : s.size ≤ maxLen) (hL : LaidU w) :
    Calls Tryd.prog 7 #[.agg #[.slice A1 n1 c1], .string s] w fun e w' => e = .returned (.bool true) ∧ Below w.heap.size w w' :=
  namesBack_any A1 n1 c1 xs s w hn1 hc1.1 h1 hf1 hs hL
set_option maxRecDepth 100000 in
theorem lifted_namesBack (os : Os) (started : os.Started) (H : Type) (enc : TypeId × Value → H) :
    ReturnsInHanded {} Tryd.checked os 7 .any (fun w args => (Rows.namesBackSpec.pre enc Tryd.prog Tryd.f7 [] false w args ∧ laidMetH Tryd.prog laidL w) ∧ sizedMet enc Tryd.prog Tryd.f7 (OpenSpec.ofChange Rows.namesBackSpec) false w args) (Rows.namesBackSpec.post enc Tryd.prog Tryd.f7 false true false false) := by
  refine returnsInHanded_of_change_and (C := Tryd.checked) (X := fun w _ => laidMetH Tryd.prog laidL w) (fun _ _ _ hh h => h.of_heap hh) ownKnob_ started (by kernel_rfl) Tryd.func7
    (ChangeSpec.witness_shaped (enc := enc) (C := Tryd.checked) (os := os) (X := fun w _ => laidMetH Tryd.prog laidL w) false (World.laidAll Tryd.prog os laidL) #[.agg #[.slice none 0 0], .string ByteArray.empty] 8 (World.laidAll_os _ _ _) (World.shaped_of_ZipB (by kernel_rfl) (by kernel_rfl)) (by kernel_rfl) (by kernel_rfl) (by kernel_rfl) (door_met os _)) ?_
  intro W base args ds gs before hval0 hW _ _ hL _
  have hval : ∀ (j : Nat) t v, Tryd.f7.params[j]? = some t → args[j]? = some v → Value.okWide Tryd.prog W .any base t v := hval0
  have hW' := hW
  obtain ⟨p, q, hA0, hV, rfl, hfz, hnd⟩ := hW
  have hA : DataW.TrodAll enc Tryd.prog W 0 (fun _ => true) true Tryd.f7.params.toList args.toList ds p := hA0
  rw [Tryd.params7] at hA hval
  obtain ⟨v0, vs0, d0, ds0, p0, q0, hargs, rfl, rfl, h0, r0⟩ := trodAll_cons hA
  obtain ⟨v1, vs1, d1, ds1, p1, q1, rfl, rfl, rfl, h1, r1⟩ := trodAll_cons r0
  obtain ⟨rfl, rfl, rfl⟩ := trodAll_nil r1
  obtain rfl : args = #[v0, v1] := by cases args; simp_all
  obtain ⟨rfl, rfl⟩ := trodVars_none hV
  have k0 := h0
  have lt0 : ∀ x ∈ p0, x.block < W.heap.size := by obtain ⟨m, hm⟩ := k0; exact DataW.trod_lt m _ _ _ hm
  obtain ⟨A0, n0, c0, xs0, rfl, hn0, hc0, hrd0, hwf0⟩ := open_table (hval 0 27 v0 rfl rfl) h0
  obtain ⟨s1, rfl, rfl, rfl, w1⟩ := open_string (show Tryd.prog.underlying 9 = some .string by kernel_rfl) (hval 1 9 v1 rfl rfl) h1
  clear hA0 hval0
  refine (namesBack_walk A0 n0 c0 xs0 s1 W hn0 hc0 hrd0 hwf0 w1 (of_laid hL)).mono fun e W' ⟨he, bel⟩ => ?_
  subst he
  exact ⟨_, rfl, _, _, _, [], _, [], hW', trodAll_mk1 (shut_bool (show Tryd.prog.underlying 4 = some .bool by kernel_rfl) _), (trodAll_cons_mk (Below.trod laidOut_ (by kernel_rfl) (of_decide_eq_true (by kernel_rfl)) k0 bel lt0) (trodAll_cons_mk (shut_string (show Tryd.prog.underlying 9 = some .string by kernel_rfl) w1) trodAll_mk0)), rfl, bel.frame _, fun h => by cases h⟩

theorem namesBack_holds : Rows.NamesBackSaid :=
  OpenClaim.holds_of_wide 7 Tryd.f7 rfl rfl rfl rfl rfl rfl rfl ⟨rfl, rfl, rfl, rfl, rfl⟩ rfl rfl rfl rfl rfl (by kernel_rfl) Tryd.func7 (by kernel_rfl)
    (of_decide_eq_true (by kernel_rfl)) (by unfold Func.isWrapper; first | (rw [if_pos (by decide +kernel)]; kernel_rfl) | (rw [if_neg (by decide +kernel)]; exact ⟨rfl, rfl⟩))
    (fun os started H enc _ => lifted_namesBack os started H enc)
theorem namesBack_card : Rows.NamesBackCardSaid :=
  Claim7.holds_tied_plain_at .later [] [.data, .pinned] true Rows.namesBackCard.stood.harness false
    namesBack_holds (fun _ h => by cases h) (by kernel_rfl) (fun _ h => by cases h) namesBack_row_tie rfl ⟨rfl, rfl⟩ (by kernel_rfl) rfl
    (fun f fn hf hfn => by
      obtain rfl : f = 7 := Option.some.inj ((show Tryd.prog.funcNamed "yardarm/yardarmlaw10.NamesBack" = some 7 by kernel_rfl).symm.trans hf) |>.symm
      obtain rfl : fn = Tryd.f7 := (Option.some.inj (Tryd.func7.symm.trans hfn)).symm
      exact ⟨by kernel_rfl, fun j t ht => by
        rw [Tryd.params7] at ht
        have hm : t ∈ [27, 9] := by simpa using Array.mem_of_getElem? ht
        have hall : ([27, 9].all fun u => !Tryd.prog.wantsStandIn u) = true := by kernel_rfl
        exact (show Tryd.prog.wantsStandIn t = false by simpa using List.all_eq_true.1 hall t hm)⟩)
    (by kernel_rfl)
#print axioms namesBack_card
end Go.Proofs.YtpfmbehhppbcnaaDoor
