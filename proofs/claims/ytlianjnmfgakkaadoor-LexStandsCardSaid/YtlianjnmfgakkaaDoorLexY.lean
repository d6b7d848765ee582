/- Tokens compared; cut; lex.Next at a place that is none. -/
import Derived.Test.YtlianjnmfgakkaaDoorLexG
namespace Go.Proofs.YtlianjnmfgakkaaDoor
open Go.RowKit

theorem neT_iff (x y : Tok) : neT x y = false ↔ x = y := by unfold neT; simp
theorem neT_self (x : Tok) : neT x x = false := (neT_iff x x).2 rfl
theorem bytes_ne {c r : ByteArray} (h : ¬ c = r) : ¬ c.toList = r.toList := fun e => h (by
  rw [toList_data', toList_data'] at e
  exact ByteArray.ext (Array.toList_inj.1 e))
set_option maxHeartbeats 1000000 in
@[go_sem high] theorem neq_Tok (w : World) (a b p q : Int) (c r : ByteArray) (d e : Bool) : (binOp .neq 29 (.agg #[.int .i64 a, .int .i64 b, .string c, .bool d]) (.agg #[.int .i64 p, .int .i64 q, .string r, .bool e])).run Tryd.prog w = .ok (.bool (neT ⟨a, b, c, d⟩ ⟨p, q, r, e⟩)) w := by
  by_cases h1 : a = p <;> by_cases h2 : b = q <;> by_cases h3 : c = r
  all_goals first
    | (have h3' := bytes_ne h3; cases d <;> cases e <;> simp [go_sem, h1, h2, h3, h3', neT, tok_ext])
    | (cases d <;> cases e <;> simp [go_sem, h1, h2, h3, neT, tok_ext])
def cutN (s : ByteArray) : ByteArray := s.extract 0 (min s.size 1500)
theorem cutN_size (s : ByteArray) : (cutN s).size ≤ 1500 := by unfold cutN; rw [ByteArray.size_extract]; omega
theorem cut_any (s : ByteArray) (hm : s.size ≤ maxLen) (w : World) : Calls Tryd.prog 12 #[.string s] w fun e w' => e = .returned (.string (cutN s)) ∧ w' = w := by
  obtain ⟨q, hq⟩ : ∃ q, q = min s.size 1500 := ⟨_, rfl⟩
  have hc : Hid (cutN s = s.extract 0 q) := hide (by unfold cutN; rw [hq])
  have z1 : min (s.size : Int) 1500 = (q : Int) := by omega
  have z2 : q ≤ s.size := by omega
  have z3 : (q : Int) ≤ (s.size : Int) := by omega
  replace hq := hide hq
  go_enter Tryd.func12, Tryd.ntmps12
  go_wp2
  go_ret
  exact ⟨by rw [hc.out]; rfl, rfl⟩
set_option maxRecDepth 100000 in
set_option maxHeartbeats 4000000 in
theorem next_out (s : ByteArray) (z : Int) (hz : z < 0 ∨ (s.size : Int) < z) (w : World) :
    Calls Tryd.prog 13 #[.string s, .int .i64 z] w fun e w' => e = .returned (.tuple #[tokV zeroT, .int .i64 0, .int .i64 2]) ∧ Ext w w' := by
  obtain ⟨N, hN⟩ : ∃ N : Tok × Int × Int, N = (zeroT, 0, 2) := ⟨_, rfl⟩
  have hv := hide hN
  rw [show Ending.returned (.tuple #[tokV zeroT, .int .i64 0, .int .i64 2]) = .returned (.tuple #[tokV N.1, .int .i64 N.2.1, .int .i64 N.2.2]) by rw [hN]]
  clear hN
  go_enter Tryd.func13, Tryd.ntmps13
  go_upto_region 1 with fail
  obtain ⟨w0, hw0⟩ : ∃ w0, w0 = w.alloc (.cells #[.int .i64 0, .int .i64 0, .string ⟨#[]⟩, .bool false] 29) := ⟨_, rfl⟩
  rw [← hw0]
  have E4 : Hid (Ext w w0) := hide (by rw [hw0]; exact (Below.refl _ _).alloc (Nat.le_refl _) _)
  have X4 : Hid (BoxN w0 w.heap.size 29 #[.int .i64 0, .int .i64 0, .string ⟨#[]⟩, .bool false]) := hide (by rw [hw0]; exact BoxN.new w _ _)
  clear hw0
  obtain ⟨p4, hp4⟩ : ∃ b, b = w.heap.size := ⟨_, rfl⟩
  rw [← hp4] at X4 ⊢
  have hle4 : w.heap.size ≤ p4 := by omega
  clear hp4
  by_cases h0 : z < 0
  · have X5 := (((X4.out.set 0 (.int .i64 0)).set 1 (.int .i64 0)).set 2 (.string ⟨#[]⟩)).set 3 (.bool false)
    have E5 := (((E4.out.setCell (p := ⟨p4, 0, none⟩) hle4 (.int .i64 0)).setCell (p := ⟨p4, 1, none⟩) hle4 (.int .i64 0)).setCell (p := ⟨p4, 2, none⟩) hle4 (.string ⟨#[]⟩)).setCell (p := ⟨p4, 3, none⟩) hle4 (.bool false)
    have s4 := X4.out.lt
    have f40 := X4.out.free 0
    have f41 := X4.out.free 1
    have f42 := X4.out.free 2
    have f43 := X4.out.free 3
    have k40 := X4.out.cell 0 (v := .int .i64 0) rfl
    have k41 := X4.out.cell 1 (v := .int .i64 0) rfl
    have k42 := X4.out.cell 2 (v := .string ⟨#[]⟩) rfl
    have k43 := X4.out.cell 3 (v := .bool false) rfl
    replace X5 := hide X5
    replace E5 := hide E5
    go_wp2
    refine bodyPost_ret (results_cell3 rfl _ _ p4 29 #[(.int .i64 0), (.int .i64 0), (.string ⟨#[]⟩), (.bool false)] _ _ rfl X5.out Tryd.underlying29 rfl (by kernel_rfl)) rfl ?_
    refine ⟨?_, E5.out⟩
    rw [hv.out]
    try rfl
  · have h1 : (s.size : Int) < z := hz.resolve_left h0
    clear hz
    have X5 := (((X4.out.set 0 (.int .i64 0)).set 1 (.int .i64 0)).set 2 (.string ⟨#[]⟩)).set 3 (.bool false)
    have E5 := (((E4.out.setCell (p := ⟨p4, 0, none⟩) hle4 (.int .i64 0)).setCell (p := ⟨p4, 1, none⟩) hle4 (.int .i64 0)).setCell (p := ⟨p4, 2, none⟩) hle4 (.string ⟨#[]⟩)).setCell (p := ⟨p4, 3, none⟩) hle4 (.bool false)
    have s4 := X4.out.lt
    have f40 := X4.out.free 0
    have f41 := X4.out.free 1
    have f42 := X4.out.free 2
    have f43 := X4.out.free 3
    have k40 := X4.out.cell 0 (v := .int .i64 0) rfl
    have k41 := X4.out.cell 1 (v := .int .i64 0) rfl
    have k42 := X4.out.cell 2 (v := .string ⟨#[]⟩) rfl
    have k43 := X4.out.cell 3 (v := .bool false) rfl
    replace X5 := hide X5
    replace E5 := hide E5
    go_wp2
    refine bodyPost_ret (results_cell3 rfl _ _ p4 29 #[(.int .i64 0), (.int .i64 0), (.string ⟨#[]⟩), (.bool false)] _ _ rfl X5.out Tryd.underlying29 rfl (by kernel_rfl)) rfl ?_
    refine ⟨?_, E5.out⟩
    rw [hv.out]
    try rfl
end Go.Proofs.YtlianjnmfgakkaaDoor
