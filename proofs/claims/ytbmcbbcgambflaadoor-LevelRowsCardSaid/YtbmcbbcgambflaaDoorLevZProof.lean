/- LevelRowsCardSaid: assignments that are uniform, have another level, and stand to one another, are as the document's answer has them; for every two rows, a place and a level. No condition beside the card's own: the package's two tables hold what the program's text lays. -/
import Derived.Test.YtbmcbbcgambflaaDoorRows
import Derived.Test.YtbmcbbcgambflaaDoorCards
import Derived.Test.YtbmcbbcgambflaaDoorLaid09
import Derived.Test.YtbmcbbcgambflaaDoorLevZ
import Derived.Test.YtbmcbbcgambflaaDoorOpenA
import Derived.SevenTiedAt
namespace Go.Proofs.YtbmcbbcgambflaaDoor
open Go Go.RowKit Go.ChangeShapes Go.WideShapes Go.ChangeAt
open Go.ChangeMaps (open_string shut_string)
theorem levelRows_walk (A1 : Option Addr) (n1 c1 : Nat) (xs : List Int) (A2 : Option Addr) (n2 c2 : Nat) (ys : List Int) (i l : Int) (w : World)
    (hn1 : n1 = xs.length) (hc1 : n1 ≤ c1 ∧ c1 ≤ maxLen) (h1 : Rd intE w.heap.size w A1 xs) (_ : ∀ x ∈ xs, (Lit.int .i64 x).wf = true)
    (hn2 : n2 = ys.length) (hc2 : n2 ≤ c2 ∧ c2 ≤ maxLen) (h2 : Rd intE w.heap.size w A2 ys) (_ : ∀ x ∈ ys, (Lit.int .i64 x).wf = true)
    (_ : (Lit.int .i64 i).wf = true) (_ : (Lit.int .i64 l).wf = true) (hL : LaidAt w) :
    Calls Tryd.prog 7 #[.slice A1 n1 c1, .slice A2 n2 c2, .agg #[.int .i64 i, .int .i64 l]] w fun e w' => e = .returned (.bool true) ∧ Below w.heap.size w w' :=
  levelRows_any A1 A2 n1 c1 n2 c2 xs ys i l w hn1 hc1.1 h1 hn2 hc2.1 h2 hL
set_option maxRecDepth 100000 in
theorem lifted_levelRows (os : Os) (started : os.Started) (H : Type) (enc : TypeId × Value → H) :
    ReturnsInHanded {} Tryd.checked os 7 .any (fun w args => (Rows.levelRowsSpec.pre enc Tryd.prog Tryd.f7 [] false w args ∧ laidMetH Tryd.prog laidL w) ∧ sizedMet enc Tryd.prog Tryd.f7 (OpenSpec.ofChange Rows.levelRowsSpec) false w args) (Rows.levelRowsSpec.post enc Tryd.prog Tryd.f7 false true false false) := by
  refine returnsInHanded_of_change_and (C := Tryd.checked) (X := fun w _ => laidMetH Tryd.prog laidL w) (fun _ _ _ hh h => h.of_heap hh) ownKnob_ started (by kernel_rfl) Tryd.func7
    (ChangeSpec.witness_shaped (enc := enc) (C := Tryd.checked) (os := os) (X := fun w _ => laidMetH Tryd.prog laidL w) false (World.doorLaid Tryd.prog 400 os) #[.slice none 0 0, .slice none 0 0, .agg #[.int .i64 0, .int .i64 0]] 8 rfl (World.shaped_of_RefB (by kernel_rfl) (by kernel_rfl)) (by kernel_rfl) (by kernel_rfl) (by kernel_rfl) (door_met os _)) ?_
  intro W base args ds gs before hval0 hW _ _ hL _
  have hval : ∀ (j : Nat) t v, Tryd.f7.params[j]? = some t → args[j]? = some v → Value.okWide Tryd.prog W .any base t v := hval0
  have hW' := hW
  obtain ⟨p, q, hA0, hV, rfl, hfz, hnd⟩ := hW
  have hA : DataW.TrodAll enc Tryd.prog W 0 (fun _ => true) true Tryd.f7.params.toList args.toList ds p := hA0
  rw [Tryd.params7] at hA hval
  obtain ⟨v0, vs0, d0, ds0, p0, q0, hargs, rfl, rfl, h0, r0⟩ := trodAll_cons hA
  obtain ⟨v1, vs1, d1, ds1, p1, q1, rfl, rfl, rfl, h1, r1⟩ := trodAll_cons r0
  obtain ⟨v2, vs2, d2, ds2, p2, q2, rfl, rfl, rfl, h2, r2⟩ := trodAll_cons r1
  obtain ⟨rfl, rfl, rfl⟩ := trodAll_nil r2
  obtain rfl : args = #[v0, v1, v2] := by cases args; simp_all
  obtain ⟨rfl, rfl⟩ := trodVars_none hV
  have k0 := h0
  have lt0 : ∀ x ∈ p0, x.block < W.heap.size := by obtain ⟨m, hm⟩ := k0; exact DataW.trod_lt m _ _ _ hm
  obtain ⟨A0, n0, c0, xs0, rfl, hn0, hc0, hrd0, hwf0⟩ := open_intRowT (show Tryd.prog.underlying 22 = some (.slice 3) by kernel_rfl) (show Tryd.prog.underlying 3 = some (.int .i64) by kernel_rfl) (show Tryd.prog.cellsOf 3 = 1 by kernel_rfl) (hval 0 22 v0 rfl rfl) h0
  have k1 := h1
  have lt1 : ∀ x ∈ p1, x.block < W.heap.size := by obtain ⟨m, hm⟩ := k1; exact DataW.trod_lt m _ _ _ hm
  obtain ⟨A1, n1, c1, xs1, rfl, hn1, hc1, hrd1, hwf1⟩ := open_intRowT (show Tryd.prog.underlying 22 = some (.slice 3) by kernel_rfl) (show Tryd.prog.underlying 3 = some (.int .i64) by kernel_rfl) (show Tryd.prog.cellsOf 3 = 1 by kernel_rfl) (hval 1 22 v1 rfl rfl) h1
  obtain ⟨a2, b2, rfl, rfl, rfl, w2, u2⟩ := open_int2 (show Tryd.prog.underlying 46 = some (.array 2 3) by kernel_rfl) (show Tryd.prog.underlying 3 = some (.int .i64) by kernel_rfl) (show Tryd.prog.cellsOf 3 = 1 by kernel_rfl) (show Tryd.prog.cellsOf 46 = 2 by kernel_rfl) (hval 2 46 v2 rfl rfl) h2
  clear hA0 hval0
  refine (levelRows_walk A0 n0 c0 xs0 A1 n1 c1 xs1 a2 b2 W hn0 hc0 hrd0 hwf0 hn1 hc1 hrd1 hwf1 w2 u2 (of_laid hL)).mono fun e W' ⟨he, bel⟩ => ?_
  subst he
  exact ⟨_, rfl, _, _, _, [], _, [], hW', trodAll_mk1 (shut_bool (show Tryd.prog.underlying 4 = some .bool by kernel_rfl) _), (trodAll_cons_mk (Below.trod laidOut_ (by kernel_rfl) (of_decide_eq_true (by kernel_rfl)) k0 bel lt0) (trodAll_cons_mk (Below.trod laidOut_ (by kernel_rfl) (of_decide_eq_true (by kernel_rfl)) k1 bel lt1) (trodAll_cons_mk (shut_int2 (show Tryd.prog.underlying 46 = some (.array 2 3) by kernel_rfl) (show Tryd.prog.underlying 3 = some (.int .i64) by kernel_rfl) (show Tryd.prog.cellsOf 3 = 1 by kernel_rfl) (show Tryd.prog.cellsOf 46 = 2 by kernel_rfl) w2 u2) trodAll_mk0))), rfl, bel.frame _, fun h => by cases h⟩

theorem levelRows_holds : Rows.LevelRowsSaid :=
  OpenClaim.holds_of_wide 7 Tryd.f7 rfl rfl rfl rfl rfl rfl rfl ⟨rfl, rfl, rfl, rfl, rfl⟩ rfl rfl rfl rfl rfl (by kernel_rfl) Tryd.func7 (by kernel_rfl)
    (of_decide_eq_true (by kernel_rfl)) (by unfold Func.isWrapper; first | (rw [if_pos (by decide +kernel)]; kernel_rfl) | (rw [if_neg (by decide +kernel)]; exact ⟨rfl, rfl⟩))
    (fun os started H enc _ => lifted_levelRows os started H enc)
theorem levelRows_card : Rows.LevelRowsCardSaid :=
  Claim7.holds_tied_plain_at .later [] [.widerDeep, .data] true Rows.levelRowsCard.stood.harness false
    levelRows_holds (fun _ h => by cases h) (by kernel_rfl) (fun _ h => by cases h) levelRows_row_tie rfl ⟨rfl, rfl⟩ (by kernel_rfl) rfl
    (fun f fn hf hfn => by
      obtain rfl : f = 7 := Option.some.inj ((show Tryd.prog.funcNamed "yardarm/yardarmlaw09.LevelRows" = some 7 by kernel_rfl).symm.trans hf) |>.symm
      obtain rfl : fn = Tryd.f7 := (Option.some.inj (Tryd.func7.symm.trans hfn)).symm
      exact ⟨by kernel_rfl, fun j t ht => by
        rw [Tryd.params7] at ht
        have hm : t ∈ [22, 46] := by simpa using Array.mem_of_getElem? ht
        have hall : ([22, 46].all fun u => !Tryd.prog.wantsStandIn u) = true := by kernel_rfl
        exact (show Tryd.prog.wantsStandIn t = false by simpa using List.all_eq_true.1 hall t hm)⟩)
    (by kernel_rfl)
#print axioms levelRows_card
end Go.Proofs.YtbmcbbcgambflaaDoor
