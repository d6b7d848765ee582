/- graph.Check, of, Of, Same; the document's Right, Same; fair, small. -/
import Derived.Test.YtepgpiolhiidiaaGraC
import Derived.Laws.Rows
namespace Go.Proofs.Ytepgpiolhiidiaa
open Go.RowKit

/-- a graph in a box -/
abbrev BoxG (w : World) (b : Nat) (n : Int) (A : Option Addr) (m c : Nat) : Prop := BoxN w b 24 #[.int .i64 n, .slice A m c]
theorem results_cell_one {P : Program} {fn : Func} {p u : Tmp} {ty : TypeId} (h : fn.results = #[.cell p ty, .tmp u]) (tmps : Array Value) (w : World) (g : Nat) (t : TypeId) (cs : Array Value) (fr : Nat × Nat) (d : TypeDesc)
    (hp : tmps.getD p undef = .pointer (some ⟨g, 0, none⟩)) (hg : w.heap[g]? = some (.cells cs t fr))
    (hu : P.underlying ty = some d) (hd : (match d with | .struct _ | .array _ _ => true | _ => false) = true) (hi : (P.info? ty).map (·.size) = some cs.size) :
    (results fn tmps).run P w = .ok (.tuple #[.agg cs, tmps.getD u undef]) w := by
  have hp' : tmps[p]?.getD undef = .pointer (some ⟨g, 0, none⟩) := by simpa using hp
  simp only [results, h]
  simp [Sem.run_bind, Result.andThen, hp', asAddr, run_loadVar_row w g t ty cs fr d hg hu hd hi]
def chkG (n : Int) (xs : List (Int × Int × Int)) : Int := if rightG n xs = true then 0 else 150
theorem chkG_yes {n : Int} {xs : List (Int × Int × Int)} (h : rightG n xs = true) : chkG n xs = 0 := if_pos h
theorem chkG_no {n : Int} {xs : List (Int × Int × Int)} (h : rightG n xs = false) : chkG n xs = 150 := if_neg (by rw [h]; decide)
set_option maxHeartbeats 1000000 in
theorem check_any (n : Int) (A : Option Addr) (m c : Nat) (xs : List (Int × Int × Int)) (w : World) (h : Rd edgeE w.heap.size w A xs) (hm : m = xs.length) (hl : m ≤ 1000000) :
    Calls Try.prog 22 #[.agg #[.int .i64 n, .slice A m c]] w fun e w' => e = .returned (.int .i64 (chkG n xs)) ∧ Ext w w' := by
  obtain ⟨q, hq⟩ : ∃ q, q = chkG n xs := ⟨_, rfl⟩
  rw [← hq]
  replace h := hide h
  replace hm := hide hm
  go_enter Try.func22, Try.ntmps22
  go_upto_region 1 with fail
  obtain ⟨w0, hw0⟩ : ∃ w0, w0 = w.alloc (.cells #[.int .i64 n, .slice A m c] 24) := ⟨_, rfl⟩
  rw [← hw0]
  have hE0 : Ext w w0 := by rw [hw0]; exact (Below.refl _ _).alloc (Nat.le_refl _) _
  have X1 : BoxG w0 w.heap.size n A m c := by rw [hw0]; exact BoxN.new w _ _
  clear hw0
  obtain ⟨p1, hp1⟩ : ∃ b, b = w.heap.size := ⟨_, rfl⟩
  rw [← hp1] at X1 ⊢
  clear hp1
  have k10 := X1.cell 0 (v := .int .i64 n) rfl
  have k11 := X1.cell 1 (v := .slice A m c) rfl
  have s1 := X1.lt
  by_cases h1 : 0 ≤ n
  · by_cases h2 : n ≤ 300
    · by_cases h3 : m ≤ 40000
      · have h3' : (m : Int) ≤ 40000 := by omega
        go_wp2_with fail
        refine (all_Edge A m c xs 42 #[.pointer (some ⟨p1, 0, none⟩)] (stepE n xs) _ hm.out (h.out.ext hE0) hl ⟨enter_chk, ?_⟩).mono ?_
        · intro i a b d W hi hW
          exact chkFun_any n a b d A m c xs i p1 W (Nat.lt_of_lt_of_le s1 hW.size) (below_cell hW s1 k10) (below_cell hW s1 k11) hm.out hl ((h.out.ext hE0).ext hW) hi
        rintro e w2 ⟨rfl, hE⟩
        have hl3 : xs.length ≤ 40000 := by rw [← hm.out]; exact h3
        cases hall : allH (stepE n xs) xs with
        | true =>
          have hv : Hid (q = 0) := hide (by rw [hq]; unfold chkG rightG; simp [h1, h2, hl3, hall])
          clear hq hall
          go_wp2
          go_ret
          exact ⟨ret_int hv.out.symm, hE0.trans (hE.mono hE0.size)⟩
        | false =>
          have hv : Hid (q = 150) := hide (by rw [hq]; unfold chkG rightG; simp [hall])
          clear hq hall
          go_wp2
          go_ret
          exact ⟨ret_int hv.out.symm, hE0.trans (hE.mono hE0.size)⟩
      · have h3' : ¬ (m : Int) ≤ 40000 := by omega
        have hl3 : ¬ xs.length ≤ 40000 := by rw [← hm.out]; exact h3
        have hv : Hid (q = 150) := hide (by rw [hq]; unfold chkG rightG; simp [hl3])
        clear hq
        go_wp2
        go_ret
        exact ⟨ret_int hv.out.symm, hE0⟩
    · have hv : Hid (q = 150) := hide (by rw [hq]; unfold chkG rightG; simp [h2])
      clear hq
      go_wp2
      go_ret
      exact ⟨ret_int hv.out.symm, hE0⟩
  · have hv : Hid (q = 150) := hide (by rw [hq]; unfold chkG rightG; simp [h1])
    clear hq
    go_wp2
    go_ret
    exact ⟨ret_int hv.out.symm, hE0⟩
set_option maxHeartbeats 1000000 in
theorem of_any (n : Int) (A : Option Addr) (m c : Nat) (xs : List (Int × Int × Int)) (w : World) (h : Rd edgeE w.heap.size w A xs) (hm : m = xs.length) (hmc : m ≤ c) (hl : m ≤ 1000000) :
    Calls Try.prog 51 #[.int .i64 n, .slice A m c] w fun e w' => ∃ v, e = .returned (.agg #[.int .i64 n, v]) ∧ Own edgeE 50 w.heap.size w' v (ofE xs) ∧ Ext w w' := by
  replace h := hide h
  replace hm := hide hm
  go_enter Try.func51, Try.ntmps51
  go_upto_region 1 with fail
  obtain ⟨w0, hw0⟩ : ∃ w0, w0 = w.alloc (.cells #[.int .i64 0, .slice none 0 0] 24) := ⟨_, rfl⟩
  rw [← hw0]
  have E : Ext w w0 := by rw [hw0]; exact (Below.refl _ _).alloc (Nat.le_refl _) _
  have X4 : BoxG w0 w.heap.size 0 none 0 0 := by rw [hw0]; exact BoxN.new w _ _
  clear hw0
  obtain ⟨p4, hp4⟩ : ∃ b, b = w.heap.size := ⟨_, rfl⟩
  have hle : w.heap.size ≤ p4 := by omega
  rw [← hp4] at X4 ⊢
  clear hp4
  go_wp2_with fail
  refine (sort_Edge A m c xs _ hm.out (h.out.ext E) hmc hl).mono ?_
  rintro e w1 ⟨v, rfl, hO, hE⟩
  obtain ⟨A1, c1, rfl, hr1, hc1, -⟩ := hO.rd
  replace X4 := X4.ext hE
  replace E := E.trans (hE.mono E.size)
  have hl1 : (isort ltE xs).length ≤ 1000000 := by rw [length_isort, ← hm.out]; exact hl
  clear hO hE
  go_wp2_with fail
  refine (unique_Edge A1 _ c1 (isort ltE xs) _ rfl hr1 hl1).mono ?_
  rintro e w2 ⟨v, rfl, hO, hE⟩
  replace X4 := X4.ext hE
  have hO2 := hide (hO.base_le E.size)
  replace E := E.trans (hE.mono E.size)
  clear hE hr1 hO
  have f0 := X4.free 0
  have f1 := X4.free 1
  have k0 := X4.cell 0 (v := .int .i64 0) rfl
  have k1 := X4.cell 1 (v := .slice none 0 0) rfl
  have s4 := X4.lt
  obtain ⟨A2, c2, rfl, -, -, -⟩ := hO2.out.rd
  go_wp2
  refine bodyPost_ret (results_cell_row rfl _ _ p4 24 #[.int .i64 n, .slice A2 (ofE xs).length c2] _ _ rfl ((X4.set 0 (.int .i64 n)).set 1 (.slice A2 (ofE xs).length c2)) Try.underlying24 rfl (by kernel_rfl)) rfl ?_
  refine ⟨_, rfl, ?_, ?_⟩
  · exact (hO2.out.setN X4 (by decide) 0 _).setN (X4.set 0 _) (by decide) 1 _
  · exact (E.setCell (p := ⟨p4, 0, none⟩) hle _).setCell (p := ⟨p4, 1, none⟩) hle _
end Go.Proofs.Ytepgpiolhiidiaa
