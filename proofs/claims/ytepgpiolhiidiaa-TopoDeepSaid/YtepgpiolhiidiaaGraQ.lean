/- slices.Collect over graph.edges; In, Filter. -/
import Derived.Test.YtepgpiolhiidiaaGraO
namespace Go.Proofs.Ytepgpiolhiidiaa
open Go.RowKit Go.Shelf

set_option maxHeartbeats 1000000 in
theorem collect_any (gB fB : Nat) (A : Option Addr) (m c : Nat) (xs : List (Int × Int × Int)) (hm : m = xs.length) (hl : m ≤ 1000000) (hf : FuncId) (cb : Array Value) (p : Int × Int × Int → Bool) (w : World)
    (hg : w.cell? ⟨gB, 1, none⟩ = some (.slice A m c)) (hfc : w.cell? ⟨fB, 0, none⟩ = some (.func (.func hf) #[] cb)) (hr : Rd edgeE w.heap.size w A xs) (hH : HoldP hf cb xs p w) :
    Calls Try.prog 46 #[.func (.func 65) #[] #[.pointer (some ⟨gB, 0, none⟩), .pointer (some ⟨fB, 0, none⟩)]] w fun e w' => ∃ v, e = .returned v ∧ Own edgeE 50 w.heap.size w' v (xs.filter p) ∧ Ext w w' := by
  have hs := hide (appendSeq_any gB fB A m c xs hm hl hf cb p w hg hfc hr hH)
  clear hg hfc hr hH
  go_enter Try.func46, Try.ntmps46
  go_wp2_with fail
  refine hs.out.mono ?_
  rintro e w3 ⟨v, rfl, hO, hE⟩
  clear hs
  obtain ⟨A3, c3, rfl, -, -, -⟩ := hO.rd
  replace hO := hide hO
  go_wp2
  go_ret
  exact ⟨_, rfl, hO.out, hE⟩
/-- edges told, collected: from a world in which the graph is read -/
theorem edges_new (n : Int) (A : Option Addr) (m c : Nat) (hf : FuncId) (cb : Array Value) (w w' : World) (h : w' = (w.alloc (.cells #[.int .i64 n, .slice A m c] 24)).alloc (.cells #[.func (.func hf) #[] cb] 51)) :
    Ext w w' ∧ w'.cell? ⟨w.heap.size, 1, none⟩ = some (.slice A m c) ∧ w'.cell? ⟨w.heap.size + 1, 0, none⟩ = some (.func (.func hf) #[] cb) := by
  subst h
  refine ⟨((Below.refl _ _).alloc (Nat.le_refl _) _).alloc (by simp) _, ?_, ?_⟩
  · exact ((BoxN.new w 24 #[.int .i64 n, .slice A m c]).alloc _).cell 1 rfl
  · have := BoxN.new (w.alloc (.cells #[.int .i64 n, .slice A m c] 24)) 51 #[.func (.func hf) #[] cb]
    rw [World.size_alloc] at this
    exact this.cell 0 rfl
theorem beq_dec (a b : Int) : (a == b) = decide (a = b) := by by_cases h : a = b <;> simp [h]
set_option maxHeartbeats 1000000 in
theorem inFun_any (v a b c : Int) (g : Nat) (w : World) (hb : g < w.heap.size) (hc : w.cell? ⟨g, 0, none⟩ = some (.int .i64 v)) :
    Calls Try.prog 48 #[.agg #[.int .i64 a, .int .i64 b, .int .i64 c], .pointer (some ⟨g, 0, none⟩)] w fun e w' => e = .returned (.bool (decide (b = v))) ∧ Ext w w' := by
  rw [← beq_dec]
  go_enter Try.func48, Try.ntmps48
  go_upto_region 1 with fail
  obtain ⟨w1, hw1⟩ : ∃ x, x = w.alloc (.cells #[.int .i64 a, .int .i64 b, .int .i64 c] 50) := ⟨_, rfl⟩
  rw [← hw1]
  have hE : Ext w w1 := by rw [hw1]; exact (Below.refl _ _).alloc (Nat.le_refl _) _
  have X6 : BoxN w1 w.heap.size 50 #[.int .i64 a, .int .i64 b, .int .i64 c] := by rw [hw1]; exact BoxN.new _ _ _
  clear hw1
  have hc' := below_cell hE hb hc
  have hb' := Nat.lt_of_lt_of_le hb hE.size
  obtain ⟨p6, hp6⟩ : ∃ b, b = w.heap.size := ⟨_, rfl⟩
  rw [← hp6] at X6 ⊢
  clear hp6
  have k61 := X6.cell 1 (v := .int .i64 b) rfl
  have s6 := X6.lt
  go_wp2
  go_ret
  exact ⟨rfl, hE⟩
theorem enter_in (args : Array Value) (w : World) : (callFunc 48 args).run Try.prog w = .ok (.enter 48 args) w := enters_of Try.func48 (by kernel_rfl) rfl args w
def inL (n : Int) (xs : List (Int × Int × Int)) (v : Int) : List (Int × Int × Int) := if askE n xs [v] = 0 then xs.filter (fun x => decide (x.2.1 = v)) else []
set_option maxHeartbeats 2000000 in
theorem in_any (n v : Int) (A : Option Addr) (m c : Nat) (xs : List (Int × Int × Int)) (w : World) (h : Rd edgeE w.heap.size w A xs) (hm : m = xs.length) (hl : m ≤ 1000000) :
    Calls Try.prog 23 #[.agg #[.int .i64 n, .slice A m c], .int .i64 v] w fun e w' => ∃ u, e = .returned (.tuple #[u, .int .i64 (askE n xs [v])]) ∧ Own edgeE 50 w.heap.size w' u (inL n xs v) ∧ Ext w w' := by
  obtain ⟨q, hq⟩ : ∃ q, q = askE n xs [v] := ⟨_, rfl⟩
  obtain ⟨ol, hol⟩ : ∃ q, q = inL n xs v := ⟨_, rfl⟩
  rw [← hq, ← hol]
  replace h := hide h
  replace hm := hide hm
  replace hol := hide hol
  go_enter Try.func23, Try.ntmps23
  go_upto_region 1 with fail
  obtain ⟨w0, hw0⟩ : ∃ w0, w0 = (w.alloc (.cells #[.int .i64 n, .slice A m c] 24)).alloc (.cells #[.int .i64 v] 3) := ⟨_, rfl⟩
  rw [← hw0]
  have hE0 : Ext w w0 := by rw [hw0]; exact ((Below.refl _ _).alloc (Nat.le_refl _) _).alloc (by simp) _
  have X1 : BoxG w0 w.heap.size n A m c := by rw [hw0]; exact (BoxN.new w _ _).alloc _
  have X3 : BoxN w0 (w.heap.size + 1) 3 #[.int .i64 v] := by
    rw [hw0]
    have := BoxN.new (w.alloc (.cells #[.int .i64 n, .slice A m c] 24)) 3 #[.int .i64 v]
    rw [World.size_alloc] at this
    exact this
  clear hw0
  obtain ⟨pg, hpg⟩ : ∃ b, b = w.heap.size := ⟨_, rfl⟩
  rw [← hpg] at X1 X3 ⊢
  obtain ⟨p3, hp3⟩ : ∃ b, b = pg + 1 := ⟨_, rfl⟩
  rw [← hp3] at X3 ⊢
  clear hpg hp3
  have k10 := X1.cell 0 (v := .int .i64 n) rfl
  have k11 := X1.cell 1 (v := .slice A m c) rfl
  have s1 := X1.lt
  have k3 := X3.cell 0 (v := .int .i64 v) rfl
  have s3 := X3.lt
  have hr1 := hide (rd_newAt (e := 3) intE w0 v w0.heap.size rfl)
  have hE1 : Ext w0 (w0.alloc (.cells (intE.cs v).toArray 3)) := (Below.refl _ _).alloc (Nat.le_refl _) _
  have hA := hide (asked_any n A m c xs (some ⟨w0.heap.size, 0, none⟩) 1 1 [v] (w0.alloc (.cells (intE.cs v).toArray 3)) ((h.out.ext hE0).ext hE1) hm.out hl (by have := hr1.out; rw [show (w0.alloc (.cells (intE.cs v).toArray 3)).heap.size = w0.heap.size + 1 by simp]; exact this) rfl (by decide))
  rw [← hq] at hA
  replace hq := hide hq
  clear hr1
  go_wp2_with fail
  refine hA.out.mono ?_
  rintro e w1 ⟨rfl, hE⟩
  have hB := hE0.trans ((hE1.trans (hE.mono hE1.size)).mono hE0.size)
  replace X1 := (X1.ext hE1).ext hE
  replace X3 := (X3.ext hE1).ext hE
  clear hA hE1 hE k10 k11 s1 k3 s3 hE0
  have k10 := X1.cell 0 (v := .int .i64 n) rfl
  have k11 := X1.cell 1 (v := .slice A m c) rfl
  have s1 := X1.lt
  by_cases hz : q = 0
  · subst hz
    have hv : Hid (ol = xs.filter fun x => decide (x.2.1 = v)) := hide (by rw [hol.out]; unfold inL; rw [if_pos hq.out.symm])
    go_wp2_with fail
    refine (edges_any n A m c 48 #[.pointer (some ⟨p3, 0, none⟩)] _).mono ?_
    rintro e w2 ⟨rfl, hw2⟩
    obtain ⟨hE2, g1, g2⟩ := edges_new n A m c _ _ _ _ hw2
    replace hB := hB.trans (hE2.mono hB.size)
    replace X3 := X3.ext hE2
    clear hw2 k10 k11 s1 hE2 X1
    go_wp2_with fail
    have hR := h.out.ext hB
    refine (collect_any _ _ A m c xs hm.out hl _ _ (fun x => decide (x.2.1 = v)) _ g1 g2 hR ⟨enter_in, ?_⟩).mono ?_
    · intro a b d W _ hW
      exact inFun_any v a b d p3 W (Nat.lt_of_lt_of_le X3.lt hW.size) ((X3.ext hW).cell 0 rfl)
    rintro e w3 ⟨u, rfl, hO, hE⟩
    replace hO := hide (hO.base_le hB.size)
    replace hB := hB.trans (hE.mono hB.size)
    obtain ⟨A3, c3, rfl, -, -, -⟩ := hO.out.rd
    clear g1 g2 hE X3 hR
    go_wp2
    go_ret2
    exact ⟨_, rfl, by rw [hv.out]; exact hO.out, hB⟩
  · have hz' : (q != 0) = true := by simp [hz]
    have hv : Hid (ol = []) := hide (by rw [hol.out]; unfold inL; rw [if_neg (by rw [← hq.out]; exact hz)])
    go_wp2
    go_ret2
    exact ⟨.slice none 0 0, rfl, by rw [hv.out]; exact Own.nil_, hB⟩
/-! ### Filter -/
def gN (n : Int) (xs : List (Int × Int × Int)) : Int := if rightG n xs = true then n else 0
def gL (n : Int) (xs l : List (Int × Int × Int)) : List (Int × Int × Int) := if rightG n xs = true then l else []
theorem g_no {n : Int} {xs l : List (Int × Int × Int)} (h : rightG n xs = false) : gN n xs = 0 ∧ chkG n xs = 150 ∧ gL n xs l = [] := by unfold gN chkG gL; simp [h]
theorem g_yes {n : Int} {xs l : List (Int × Int × Int)} (h : rightG n xs = true) : gN n xs = n ∧ chkG n xs = 0 ∧ gL n xs l = l := by unfold gN chkG gL; simp [h]
end Go.Proofs.Ytepgpiolhiidiaa
