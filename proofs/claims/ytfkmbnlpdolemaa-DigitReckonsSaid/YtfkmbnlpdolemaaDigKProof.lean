/- DigitReckonsSaid: for every row of numbers, sums and products are what the document's wide numbers say, or do not fit. No condition. -/
import Derived.Test.YtfkmbnlpdolemaaRows
import Derived.Test.YtfkmbnlpdolemaaDigK
import Derived.Test.YtfkmbnlpdolemaaOpenG
namespace Go.Proofs.Ytfkmbnlpdolemaa
open Go.RowKit Go.ChangeShapes Go.WideShapes Go.ChangeAt
open Go.ChangeMaps (open_string shut_string)
theorem digitReckons_walk (A : Option Addr) (n c : Nat) (xs : List Int) (w : World) (hn : n = xs.length) (hc : n ≤ c ∧ c ≤ maxLen) (h : Rd intE w.heap.size w A xs) (hx : ∀ x ∈ xs, (Lit.int .i64 x).wf = true) :
    Calls Try.prog 6 #[.slice A n c] w fun e w' => e = .returned (.bool true) ∧ Below w.heap.size w w' := digitReckons_any A n c xs w hn h hc.1 (fun x hm => wf_in (hx x hm))
set_option maxRecDepth 100000 in
theorem lifted_digitReckons (os : Os) (started : os.Started) (H : Type) (enc : TypeId × Value → H) :
    ReturnsInHanded {} Try.checked os 6 .any (Rows.digitReckonsSpec.pre6 enc Try.prog Try.f6 Rows.digitReckonsRow.domain false) (Rows.digitReckonsSpec.post enc Try.prog Try.f6 false true false false) := by
  refine returnsInHanded_of_change (C := Try.checked) ownKnob_ started (by kernel_rfl) Try.func6
    (ChangeSpec.witness6 (enc := enc) (C := Try.checked) false ⟨#[], #[.slice none 0 0], []⟩ 8 (by kernel_rfl) (by kernel_rfl) (by kernel_rfl) (by kernel_rfl)) ?_
  intro W base args ds gs before hval0 hW hcnd _
  have hval : ∀ (j : Nat) t v, Try.f6.params[j]? = some t → args[j]? = some v → Value.okWide Try.prog W .any base t v := hval0
  have hW' := hW
  obtain ⟨p, q, hA0, hV, rfl, hfz, hnd⟩ := hW
  have hA : DataW.TrodAll enc Try.prog W 0 (fun _ => true) true Try.f6.params.toList args.toList ds p := hA0
  rw [Try.params6] at hA hval
  obtain ⟨v0, vs0, d0, ds0, p0, q0, hargs, rfl, rfl, h0, r0⟩ := trodAll_cons hA
  obtain ⟨rfl, rfl, rfl⟩ := trodAll_nil r0
  obtain rfl : args = #[v0] := by cases args; simp_all
  obtain ⟨rfl, rfl⟩ := trodVars_none hV
  have k0 := h0
  have lt0 : ∀ x ∈ p0, x.block < W.heap.size := by obtain ⟨m, hm⟩ := k0; exact DataW.trod_lt m _ _ _ hm
  obtain ⟨A0, n0, c0, xs0, rfl, hn0, hc0, hrd0, hwf0⟩ := open_intRowT (show Try.prog.underlying 22 = some (.slice 2) by kernel_rfl) (show Try.prog.underlying 2 = some (.int .i64) by kernel_rfl) (show Try.prog.cellsOf 2 = 1 by kernel_rfl) (hval 0 22 v0 rfl rfl) h0
  clear hA0 hval0
  refine (digitReckons_walk A0 n0 c0 xs0 W hn0 hc0 hrd0 hwf0).mono fun e W' ⟨he, bel⟩ => ?_
  subst he
  exact ⟨_, rfl, _, _, _, [], _, [], hW', trodAll_mk1 (shut_bool (show Try.prog.underlying 4 = some .bool by kernel_rfl) _), (trodAll_cons_mk (Below.trod laidOut_ (by kernel_rfl) (of_decide_eq_true (by kernel_rfl)) k0 bel lt0) trodAll_mk0), rfl, bel.frame _, fun h => by cases h⟩

theorem digitReckons_holds : Rows.DigitReckonsSaid :=
  OpenClaim.holds_of_wide 6 Try.f6 rfl rfl rfl rfl rfl rfl rfl ⟨rfl, rfl, rfl, rfl, rfl⟩ rfl rfl rfl rfl rfl (by kernel_rfl) Try.func6 (by kernel_rfl)
    (of_decide_eq_true (by kernel_rfl)) (by unfold Func.isWrapper; first | (rw [if_pos (by decide +kernel)]; kernel_rfl) | (rw [if_neg (by decide +kernel)]; exact ⟨rfl, rfl⟩))
    (fun os started H enc _ => lifted_digitReckons os started H enc)
#print axioms digitReckons_holds
end Go.Proofs.Ytfkmbnlpdolemaa
