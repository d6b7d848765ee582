/- DigitBackSaid: for every number and text, Read of Text is the number, Head of a number's text with more behind it is that text, and Text of what is Read is the text. No condition. -/
import Derived.Test.YtfkmbnlpdolemaaRows
import Derived.Test.YtfkmbnlpdolemaaDigB2
import Derived.Test.YtfkmbnlpdolemaaOpenG
namespace Go.Proofs.Ytfkmbnlpdolemaa
open Go.RowKit Go.ChangeShapes Go.WideShapes Go.ChangeAt
open Go.ChangeMaps (open_string shut_string)
theorem digitBack_walk (a : Int) (s : ByteArray) (w : World) (ha : (Lit.int .i64 a).wf = true) (_ : s.size ≤ maxLen) :
    Calls Try.prog 4 #[.int .i64 a, .string s] w fun e w' => e = .returned (.bool true) ∧ Below w.heap.size w w' := digitBack_any a (wf_in ha) s w
set_option maxRecDepth 100000 in
theorem lifted_digitBack (os : Os) (started : os.Started) (H : Type) (enc : TypeId × Value → H) :
    ReturnsInHanded {} Try.checked os 4 .any (Rows.digitBackSpec.pre6 enc Try.prog Try.f4 Rows.digitBackRow.domain false) (Rows.digitBackSpec.post enc Try.prog Try.f4 false true false false) := by
  refine returnsInHanded_of_change (C := Try.checked) ownKnob_ started (by kernel_rfl) Try.func4
    (ChangeSpec.witness6 (enc := enc) (C := Try.checked) false ⟨#[], #[.int .i64 0, .string ByteArray.empty], []⟩ 8 (by kernel_rfl) (by kernel_rfl) (by kernel_rfl) (by kernel_rfl)) ?_
  intro W base args ds gs before hval0 hW hcnd _
  have hval : ∀ (j : Nat) t v, Try.f4.params[j]? = some t → args[j]? = some v → Value.okWide Try.prog W .any base t v := hval0
  have hW' := hW
  obtain ⟨p, q, hA0, hV, rfl, hfz, hnd⟩ := hW
  have hA : DataW.TrodAll enc Try.prog W 0 (fun _ => true) true Try.f4.params.toList args.toList ds p := hA0
  rw [Try.params4] at hA hval
  obtain ⟨v0, vs0, d0, ds0, p0, q0, hargs, rfl, rfl, h0, r0⟩ := trodAll_cons hA
  obtain ⟨v1, vs1, d1, ds1, p1, q1, rfl, rfl, rfl, h1, r1⟩ := trodAll_cons r0
  obtain ⟨rfl, rfl, rfl⟩ := trodAll_nil r1
  obtain rfl : args = #[v0, v1] := by cases args; simp_all
  obtain ⟨rfl, rfl⟩ := trodVars_none hV
  obtain ⟨a0, rfl, rfl, rfl, w0⟩ := open_int (show Try.prog.underlying 2 = some (.int .i64) by kernel_rfl) (hval 0 2 v0 rfl rfl) h0
  obtain ⟨s1, rfl, rfl, rfl, w1⟩ := open_string (show Try.prog.underlying 9 = some .string by kernel_rfl) (hval 1 9 v1 rfl rfl) h1
  clear hA0 hval0
  refine (digitBack_walk a0 s1 W w0 w1).mono fun e W' ⟨he, bel⟩ => ?_
  subst he
  exact ⟨_, rfl, _, _, _, [], _, [], hW', trodAll_mk1 (shut_bool (show Try.prog.underlying 4 = some .bool by kernel_rfl) _), (trodAll_cons_mk (shut_int (show Try.prog.underlying 2 = some (.int .i64) by kernel_rfl) w0) (trodAll_cons_mk (shut_string (show Try.prog.underlying 9 = some .string by kernel_rfl) w1) trodAll_mk0)), rfl, bel.frame _, fun h => by cases h⟩

theorem digitBack_holds : Rows.DigitBackSaid :=
  OpenClaim.holds_of_wide 4 Try.f4 rfl rfl rfl rfl rfl rfl rfl ⟨rfl, rfl, rfl, rfl, rfl⟩ rfl rfl rfl rfl rfl (by kernel_rfl) Try.func4 (by kernel_rfl)
    (of_decide_eq_true (by kernel_rfl)) (by unfold Func.isWrapper; first | (rw [if_pos (by decide +kernel)]; kernel_rfl) | (rw [if_neg (by decide +kernel)]; exact ⟨rfl, rfl⟩))
    (fun os started H enc _ => lifted_digitBack os started H enc)
#print axioms digitBack_holds
end Go.Proofs.Ytfkmbnlpdolemaa
