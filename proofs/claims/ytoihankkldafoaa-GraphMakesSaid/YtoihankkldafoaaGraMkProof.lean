/- GraphMakesSaid: which graphs may be, are the same, and those of edges; for every two graphs, number of nodes, and row of edges. No condition. -/
import Derived.Test.YtoihankkldafoaaRows
import Derived.Test.YtoihankkldafoaaGraMk
import Derived.Test.YtoihankkldafoaaOpenE
namespace Go.Proofs.Ytoihankkldafoaa
open Go.RowKit Go.ChangeShapes Go.WideShapes Go.ChangeAt
open Go.ChangeMaps (open_string shut_string)
theorem graphMakes_walk (g1 : Int) (A1 : Option Addr) (m1 c1 : Nat) (xs : List (Int × Int × Int)) (g2 : Int) (A2 : Option Addr) (m2 c2 : Nat) (ys : List (Int × Int × Int)) (nodes : Int) (A3 : Option Addr) (m3 c3 : Nat) (zs : List (Int × Int × Int)) (w : World)
    (hm1 : m1 = xs.length) (hc1 : m1 ≤ c1 ∧ c1 ≤ maxLen) (h1 : Rd edgeE w.heap.size w A1 xs) (_ : (Lit.int .i64 g1).wf = true) (hm2 : m2 = ys.length) (hc2 : m2 ≤ c2 ∧ c2 ≤ maxLen) (h2 : Rd edgeE w.heap.size w A2 ys) (_ : (Lit.int .i64 g2).wf = true)
    (_ : (Lit.int .i64 nodes).wf = true) (hm3 : m3 = zs.length) (hc3 : m3 ≤ c3 ∧ c3 ≤ maxLen) (h3 : Rd edgeE w.heap.size w A3 zs) (_ : ∀ x ∈ zs, (Lit.int .i64 x.1).wf = true ∧ (Lit.int .i64 x.2.1).wf = true ∧ (Lit.int .i64 x.2.2).wf = true) :
    Calls Try.prog 3 #[.agg #[.int .i64 g1, .slice A1 m1 c1, .int .i64 g2, .slice A2 m2 c2], .int .i64 nodes, .slice A3 m3 c3] w fun e w' => e = .returned (.bool true) ∧ Below w.heap.size w w' :=
  graphMakes_any g1 g2 nodes A1 A2 A3 m1 c1 m2 c2 m3 c3 xs ys zs w hm1 hc1.1 h1 hm2 hc2.1 h2 hm3 hc3.1 h3
set_option maxRecDepth 100000 in
theorem lifted_graphMakes (os : Os) (started : os.Started) (H : Type) (enc : TypeId × Value → H) :
    ReturnsInHanded {} Try.checked os 3 .any (Rows.graphMakesSpec.pre6 enc Try.prog Try.f3 Rows.graphMakesRow.domain false) (Rows.graphMakesSpec.post enc Try.prog Try.f3 false true false false) := by
  refine returnsInHanded_of_change (C := Try.checked) ownKnob_ started (by kernel_rfl) Try.func3
    (ChangeSpec.witness6 (enc := enc) (C := Try.checked) false ⟨#[], #[.agg #[.int .i64 0, .slice none 0 0, .int .i64 0, .slice none 0 0], .int .i64 0, .slice none 0 0], []⟩ 8 (by kernel_rfl) (by kernel_rfl) (by kernel_rfl) (by kernel_rfl)) ?_
  intro W base args ds gs before hval0 hW hcnd _
  have hval : ∀ (j : Nat) t v, Try.f3.params[j]? = some t → args[j]? = some v → Value.okWide Try.prog W .any base t v := hval0
  have hW' := hW
  obtain ⟨p, q, hA0, hV, rfl, hfz, hnd⟩ := hW
  have hA : DataW.TrodAll enc Try.prog W 0 (fun _ => true) true Try.f3.params.toList args.toList ds p := hA0
  rw [Try.params3] at hA hval
  obtain ⟨v0, vs0, d0, ds0, p0, q0, hargs, rfl, rfl, h0, r0⟩ := trodAll_cons hA
  obtain ⟨v1, vs1, d1, ds1, p1, q1, rfl, rfl, rfl, h1, r1⟩ := trodAll_cons r0
  obtain ⟨v2, vs2, d2, ds2, p2, q2, rfl, rfl, rfl, h2, r2⟩ := trodAll_cons r1
  obtain ⟨rfl, rfl, rfl⟩ := trodAll_nil r2
  obtain rfl : args = #[v0, v1, v2] := by cases args; simp_all
  obtain ⟨rfl, rfl⟩ := trodVars_none hV
  have k0 := h0
  have lt0 : ∀ x ∈ p0, x.block < W.heap.size := by obtain ⟨m, hm⟩ := k0; exact DataW.trod_lt m _ _ _ hm
  obtain ⟨g0, A0, n0, c0, xs0, g0b, A0b, n0b, c0b, xs0b, rfl, hn0, hc0, hrd0, hwf0, hn0b, hc0b, hrd0b, hwf0b⟩ := open_graph2 (hval 0 25 v0 rfl rfl) h0
  obtain ⟨a1, rfl, rfl, rfl, w1⟩ := open_int (show Try.prog.underlying 3 = some (.int .i64) by kernel_rfl) (hval 1 3 v1 rfl rfl) h1
  have k2 := h2
  have lt2 : ∀ x ∈ p2, x.block < W.heap.size := by obtain ⟨m, hm⟩ := k2; exact DataW.trod_lt m _ _ _ hm
  obtain ⟨A2, n2, c2, xs2, rfl, hn2, hc2, hrd2, hwf2⟩ := open_edgeRow (hval 2 22 v2 rfl rfl) h2
  clear hA0 hval0
  refine (graphMakes_walk g0 A0 n0 c0 xs0 g0b A0b n0b c0b xs0b a1 A2 n2 c2 xs2 W hn0 hc0 hrd0 hwf0 hn0b hc0b hrd0b hwf0b w1 hn2 hc2 hrd2 hwf2).mono fun e W' ⟨he, bel⟩ => ?_
  subst he
  exact ⟨_, rfl, _, _, _, [], _, [], hW', trodAll_mk1 (shut_bool (show Try.prog.underlying 4 = some .bool by kernel_rfl) _), (trodAll_cons_mk (Below.trod laidOut_ (by kernel_rfl) (of_decide_eq_true (by kernel_rfl)) k0 bel lt0) (trodAll_cons_mk (shut_int (show Try.prog.underlying 3 = some (.int .i64) by kernel_rfl) w1) (trodAll_cons_mk (Below.trod laidOut_ (by kernel_rfl) (of_decide_eq_true (by kernel_rfl)) k2 bel lt2) trodAll_mk0))), rfl, bel.frame _, fun h => by cases h⟩

theorem graphMakes_holds : Rows.GraphMakesSaid :=
  OpenClaim.holds_of_wide 3 Try.f3 rfl rfl rfl rfl rfl rfl rfl ⟨rfl, rfl, rfl, rfl, rfl⟩ rfl rfl rfl rfl rfl (by kernel_rfl) Try.func3 (by kernel_rfl)
    (of_decide_eq_true (by kernel_rfl)) (by unfold Func.isWrapper; first | (rw [if_pos (by decide +kernel)]; kernel_rfl) | (rw [if_neg (by decide +kernel)]; exact ⟨rfl, rfl⟩))
    (fun os started H enc _ => lifted_graphMakes os started H enc)
#print axioms graphMakes_holds
end Go.Proofs.Ytoihankkldafoaa
