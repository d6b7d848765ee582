/- TopoLeastSaid: the least order is right, and no right order is less; if nothing is told, none is right; for every graph, and row of nodes. No condition. -/
import Derived.Test.YtepgpiolhiidiaaRows
import Derived.Test.YtepgpiolhiidiaaTopLe
import Derived.Test.YtepgpiolhiidiaaOpenE
namespace Go.Proofs.Ytepgpiolhiidiaa
open Go.RowKit Go.ChangeShapes Go.WideShapes Go.ChangeAt
open Go.ChangeMaps (open_string shut_string)
theorem topoLeast_walk (n : Int) (A : Option Addr) (m c : Nat) (xs : List (Int × Int × Int)) (A2 : Option Addr) (n2 c2 : Nat) (l : List Int) (w : World) (hm : m = xs.length) (hmc : m ≤ c ∧ c ≤ maxLen) (h : Rd edgeE w.heap.size w A xs) (_ : (Lit.int .i64 n).wf = true)
    (hn2 : n2 = l.length) (hc2 : n2 ≤ c2 ∧ c2 ≤ maxLen) (h2 : Rd intE w.heap.size w A2 l) (_ : ∀ x ∈ l, (Lit.int .i64 x).wf = true) :
    Calls Try.prog 4 #[.agg #[.int .i64 n, .slice A m c], .slice A2 n2 c2] w fun e w' => e = .returned (.bool true) ∧ Below w.heap.size w w' := topoLeast_any n A m c xs A2 n2 c2 l w hm hmc.1 h hn2 hc2.1 h2
set_option maxRecDepth 100000 in
theorem lifted_topoLeast (os : Os) (started : os.Started) (H : Type) (enc : TypeId × Value → H) :
    ReturnsInHanded {} Try.checked os 4 .any (Rows.topoLeastSpec.pre6 enc Try.prog Try.f4 Rows.topoLeastRow.domain false) (Rows.topoLeastSpec.post enc Try.prog Try.f4 false true false false) := by
  refine returnsInHanded_of_change (C := Try.checked) ownKnob_ started (by kernel_rfl) Try.func4
    (ChangeSpec.witness6 (enc := enc) (C := Try.checked) false ⟨#[], #[.agg #[.int .i64 0, .slice none 0 0], .slice none 0 0], []⟩ 8 (by kernel_rfl) (by kernel_rfl) (by kernel_rfl) (by kernel_rfl)) ?_
  intro W base args ds gs before hval0 hW hcnd _
  have hval : ∀ (j : Nat) t v, Try.f4.params[j]? = some t → args[j]? = some v → Value.okWide Try.prog W .any base t v := hval0
  have hW' := hW
  obtain ⟨p, q, hA0, hV, rfl, hfz, hnd⟩ := hW
  have hA : DataW.TrodAll enc Try.prog W 0 (fun _ => true) true Try.f4.params.toList args.toList ds p := hA0
  rw [Try.params4] at hA hval
  obtain ⟨v0, vs0, d0, ds0, p0, q0, hargs, rfl, rfl, h0, r0⟩ := trodAll_cons hA
  obtain ⟨v1, vs1, d1, ds1, p1, q1, rfl, rfl, rfl, h1, r1⟩ := trodAll_cons r0
  obtain ⟨rfl, rfl, rfl⟩ := trodAll_nil r1
  obtain rfl : args = #[v0, v1] := by cases args; simp_all
  obtain ⟨rfl, rfl⟩ := trodVars_none hV
  have k0 := h0
  have lt0 : ∀ x ∈ p0, x.block < W.heap.size := by obtain ⟨m, hm⟩ := k0; exact DataW.trod_lt m _ _ _ hm
  obtain ⟨g0, A0, n0, c0, xs0, rfl, hn0, hc0, hrd0, hwf0⟩ := open_graph (hval 0 24 v0 rfl rfl) h0
  have k1 := h1
  have lt1 : ∀ x ∈ p1, x.block < W.heap.size := by obtain ⟨m, hm⟩ := k1; exact DataW.trod_lt m _ _ _ hm
  obtain ⟨A1, n1, c1, xs1, rfl, hn1, hc1, hrd1, hwf1⟩ := open_intRowT (show Try.prog.underlying 28 = some (.slice 3) by kernel_rfl) (show Try.prog.underlying 3 = some (.int .i64) by kernel_rfl) (show Try.prog.cellsOf 3 = 1 by kernel_rfl) (hval 1 28 v1 rfl rfl) h1
  clear hA0 hval0
  refine (topoLeast_walk g0 A0 n0 c0 xs0 A1 n1 c1 xs1 W hn0 hc0 hrd0 hwf0 hn1 hc1 hrd1 hwf1).mono fun e W' ⟨he, bel⟩ => ?_
  subst he
  exact ⟨_, rfl, _, _, _, [], _, [], hW', trodAll_mk1 (shut_bool (show Try.prog.underlying 4 = some .bool by kernel_rfl) _), (trodAll_cons_mk (Below.trod laidOut_ (by kernel_rfl) (of_decide_eq_true (by kernel_rfl)) k0 bel lt0) (trodAll_cons_mk (Below.trod laidOut_ (by kernel_rfl) (of_decide_eq_true (by kernel_rfl)) k1 bel lt1) trodAll_mk0)), rfl, bel.frame _, fun h => by cases h⟩

theorem topoLeast_holds : Rows.TopoLeastSaid :=
  OpenClaim.holds_of_wide 4 Try.f4 rfl rfl rfl rfl rfl rfl rfl ⟨rfl, rfl, rfl, rfl, rfl⟩ rfl rfl rfl rfl rfl (by kernel_rfl) Try.func4 (by kernel_rfl)
    (of_decide_eq_true (by kernel_rfl)) (by unfold Func.isWrapper; first | (rw [if_pos (by decide +kernel)]; kernel_rfl) | (rw [if_neg (by decide +kernel)]; exact ⟨rfl, rfl⟩))
    (fun os started H enc _ => lifted_topoLeast os started H enc)
#print axioms topoLeast_holds
end Go.Proofs.Ytepgpiolhiidiaa
