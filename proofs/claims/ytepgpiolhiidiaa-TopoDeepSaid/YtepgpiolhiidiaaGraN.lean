/- graph.edges: the iterator over those edges that something holds of. -/
import Derived.Test.YtepgpiolhiidiaaGraK
import Derived.Test.YtepgpiolhiidiaaRangeS
import Derived.Shelf.Abstract
import Derived.RangeFuncBox
import Derived.OwnWalkIn
import Derived.TacticsInMore
import Derived.Scope
import Derived.LoopIn
namespace Go.Proofs.Ytepgpiolhiidiaa
open Go.RowKit Go.Shelf
attribute [local go_sem] Oper.semAt_some

theorem cell_lt {w : World} {b o : Nat} {v : Value} (h : w.cell? ⟨b, o, none⟩ = some v) : b < w.heap.size := World.block_lt_of_cell? w _ h
theorem grown_trans2 {w w1 w2 : World} {row : Option Nat} (h : w.grownBy w1 row) (h' : w1.grownBy w2 row) : w.grownBy w2 row :=
  ⟨h'.os.trans h.os, h'.tape.trans h.tape, h'.output.trans h.output, Nat.le_trans h.size h'.size, fun k hk hne => (h'.block k (Nat.lt_of_lt_of_le hk h.size) hne).trans (h.block k hk hne)⟩
theorem cell_same {w w' : World} {b : Nat} (h : w'.heap[b]? = w.heap[b]?) (o : Nat) : w'.cell? ⟨b, o, none⟩ = w.cell? ⟨b, o, none⟩ := by
  unfold World.cell?
  simp only [h]
/-- what a round keeps: what lay ahead of all, and the box of the function that is asked -/
def KpE (n₀ fB : Nat) (W W' : World) : Prop := Below n₀ W W' ∧ ∀ o, W.heap[fB]? = some o → W'.heap[fB]? = some o
theorem KpE.trans {n₀ fB : Nat} {X Y Z : World} (h : KpE n₀ fB X Y) (k : KpE n₀ fB Y Z) : KpE n₀ fB X Z := ⟨h.1.trans k.1, fun o ho => k.2 o (h.2 o ho)⟩
theorem KpE.ext {n₀ fB : Nat} {W W' : World} (h : Ext W W') (hn : n₀ ≤ W.heap.size) : KpE n₀ fB W W' :=
  ⟨h.mono hn, fun o ho => (h.block fB (Array.getElem?_eq_some_iff.1 ho).1).trans ho⟩
theorem KpE.turn {n₀ fB B : Nat} (hn : n₀ ≤ B) (hf : fB < B) (W : World) (l : Nat) (o' : Obj) (hl : B ≤ l) : KpE n₀ fB W (W.putObj l o') :=
  ⟨⟨rfl, rfl, rfl, by simp, fun k hk => World.putObj_heap_other (by omega)⟩, fun o ho => (World.putObj_heap_other (by omega)).trans ho⟩
theorem KpE.cell {n₀ fB : Nat} {W W' : World} (h : KpE n₀ fB W W') {o : Nat} {v : Value} (hc : W.cell? ⟨fB, o, none⟩ = some v) : W'.cell? ⟨fB, o, none⟩ = some v := by
  obtain ⟨ob, ho⟩ : ∃ ob, W.heap[fB]? = some ob := ⟨_, Array.getElem?_eq_getElem (cell_lt hc)⟩
  rw [← hc]
  exact cell_same ((h.2 ob ho).trans ho.symm) o
def encE (x : Int × Int × Int) : Array Value := #[.agg #[.int .i64 x.1, .int .i64 x.2.1, .int .i64 x.2.2]]
/-- how many have been asked of; which of these were told -/
abbrev StE := Nat × List (Int × Int × Int)
def stE (s : StE) (x : Int × Int × Int) : StE := (s.1, s.2 ++ [x])
/-- the function that is asked, at the state of a loop -/
def HoldE (hf : FuncId) (cb : Array Value) (xs : List (Int × Int × Int)) (p : Int × Int × Int → Bool) (Kp : World → World → Prop) (J : StE → World → Prop) : Prop :=
  ∀ k pre a b c W0 W1, J (k, pre) W0 → Ext W0 W1 → xs[k]? = some (a, b, c) → Calls Try.prog hf (#[.agg #[.int .i64 a, .int .i64 b, .int .i64 c]] ++ cb) W1 fun e W' => e = .returned (.bool (p (a, b, c))) ∧ J (k + 1, pre) W' ∧ Kp W1 W' ∧
    ∀ t, W0.heap.size ≤ t → t < W1.heap.size → W'.heap[t]? = W1.heap[t]?
set_option maxRecDepth 100000 in
set_option maxHeartbeats 4000000 in
theorem edges1_in (l gB fB n₀ N : Nat) (n : Int) (A : Option Addr) (m c : Nat) (xs : List (Int × Int × Int)) (hm : m = xs.length) (hl : m ≤ 1000000) (hf : FuncId) (cb : Array Value) (p : Int × Int × Int → Bool) (henter : ∀ (args : Array Value) (w : World), (callFunc hf args).run Try.prog w = .ok (.enter hf args) w)
    (J Jx : StE → World → Prop) (W : World) (hJ : AbidesFrom W.heap.size J) (hn0 : n₀ ≤ W.heap.size)
    (hH : HoldE hf cb xs p (KpE n₀ fB) J)
    (hY : ∀ s x W1, J s W1 → s.2 ++ [x] <+: xs.filter p → YieldAt Fence.wide (N - 1) Try.prog l (encE x) W1 fun e W' =>
      (e = .returned (.bool true) ∧ J (stE s x) W' ∧ KpE n₀ fB W1 W') ∨ (e = .returned (.bool false) ∧ Jx (stE s x) W' ∧ KpE n₀ fB W1 W'))
    (hg : W.cell? ⟨gB, 1, none⟩ = some (.slice A m c)) (hfc : W.cell? ⟨fB, 0, none⟩ = some (.func (.func hf) #[] cb)) (hr : Rd edgeE n₀ W A xs) (h0 : J (0, []) W) :
    CallsIn Fence.wide N Try.prog 65 #[.func (.yield l) #[] #[], .pointer (some ⟨gB, 0, none⟩), .pointer (some ⟨fB, 0, none⟩)] W fun e W' => (∃ v, e = .returned v) ∧
      ((∃ s, s = (xs.length, xs.filter p) ∧ J s W') ∨ (∃ s : StE, s.2 <+: xs.filter p ∧ Jx s W')) := by
  replace hm := hide hm
  replace hr := hide hr
  have hgl := cell_lt hg
  have hfl := cell_lt hfc
  refine callsIn_of_wp Try.func65 rfl trivial ?_ rfl
  simp only [Try.ntmps65, List.size_toArray, List.length_cons, List.length_nil, Nat.reduceAdd, Nat.reduceSub, Array.replicate_succ, Array.replicate_zero, List.push_toArray, List.append_toArray, List.nil_append, List.cons_append]
  gi_wp2
  replace hg := hide hg
  gi_loopw [9] (fun i wr => ∃ k : Nat, k ≤ m ∧ i = .int .i64 k ∧ J (k, (xs.take k).filter p) wr ∧ Below n₀ W wr ∧ Hid (wr.cell? ⟨fB, 0, none⟩ = some (.func (.func hf) #[] cb))) (fun i _ => m - (intOf i).toNat)
  case atStart => exact ⟨0, Nat.zero_le _, rfl, h0, Below.refl _ _, hide hfc⟩
  case round =>
    clear h0 hfc
    obtain ⟨k, hk, rfl, hJk, hBk, hfk⟩ := hrel
    by_cases hlt : k < m
    · have hlt' : (k : Int) < (m : Int) := by omega
      obtain ⟨bk, off, rfl, ra⟩ := hr.out.at_ (i := k) (by rw [← hm.out]; exact hlt)
      obtain ⟨⟨p1, p2, p3⟩, hx⟩ := get_some (xs := xs) (i := k) (by rw [← hm.out]; exact hlt)
      obtain ⟨hx1, hx2, hx3⟩ := (ra.below hBk).edge hx
      have hbk : bk < wr.heap.size := cell_lt hx1
      have hts : Hid (xs.take (k + 1) = xs.take k ++ [(p1, p2, p3)]) := hide (take_snoc hx)
      replace hx := hide hx
      replace ra := hide ra
      obtain ⟨w1, hw1⟩ : ∃ x, x = wr.alloc (.cells #[.int .i64 p1, .int .i64 p2, .int .i64 p3] 50) := ⟨_, rfl⟩
      have hE1 : Ext wr w1 := by rw [hw1]; exact (Below.refl _ _).alloc (Nat.le_refl _) _
      have X5 : BoxN w1 wr.heap.size 50 #[.int .i64 p1, .int .i64 p2, .int .i64 p3] := by rw [hw1]; exact BoxN.new _ _ _
      have hf1 := (hE1.cell (p := ⟨fB, 0, none⟩) (cell_lt hfk.out)).trans hfk.out
      have hB1 : Below n₀ W w1 := by rw [hw1]; exact hBk.alloc (Nat.le_trans hn0 hBk.size) _
      have hC := hide (hH k _ p1 p2 p3 wr w1 hJk hE1 hx.out)
      have k50 := X5.cell 0 (v := .int .i64 p1) rfl
      have k51 := X5.cell 1 (v := .int .i64 p2) rfl
      have k52 := X5.cell 2 (v := .int .i64 p3) rfl
      have s5 := X5.lt
      have sf := cell_lt hf1
      rw [hw1] at k50 k51 k52 s5 hf1 sf
      gi_wp2_with fail
      rw [← hw1] at k50 k51 k52 s5 hf1 sf ⊢
      refine ⟨trivial, fun h => (by cases h), (callsIn_wide.2 hC.out).mono ?_⟩
      rintro e w2 ⟨rfl, hJ2, hk2, hn2⟩
      have X5b : BoxN w2 wr.heap.size 50 #[.int .i64 p1, .int .i64 p2, .int .i64 p3] := (hn2 _ (Nat.le_refl _) X5.lt).trans X5
      have hf2 := hide (hk2.cell hf1)
      have hB2 := hB1.trans hk2.1
      clear hC hn2 k50 k51 k52 s5 hf1 sf X5 hw1 hE1 hk2 hB1
      obtain ⟨p5, hp5⟩ : ∃ q, q = wr.heap.size := ⟨_, rfl⟩
      rw [← hp5] at X5b ⊢
      clear hp5
      have k50 := X5b.cell 0 (v := .int .i64 p1) rfl
      have k51 := X5b.cell 1 (v := .int .i64 p2) rfl
      have k52 := X5b.cell 2 (v := .int .i64 p3) rfl
      have s5 := X5b.lt
      cases hp : p (p1, p2, p3) with
      | false =>
        have hst : Hid ((xs.take (k + 1)).filter p = (xs.take k).filter p) := hide (by rw [hts.out, List.filter_append]; simp [hp])
        rw [← hst.out] at hJ2
        replace hp := hide hp
        gi_wp2_with fail
        refine ⟨fun _ h => (by cases h), ?_⟩
        gi_wp2
        go_roundw
        case rel => exact ⟨k + 1, by omega, by go_num, hJ2, hB2, hf2⟩
        case measure => simp [intOf]; omega
      | true =>
        have hst : Hid ((xs.take (k + 1)).filter p = (xs.take k).filter p ++ [(p1, p2, p3)]) := hide (by rw [hts.out, List.filter_append]; simp [hp])
        have hpre : (xs.take k).filter p ++ [(p1, p2, p3)] <+: xs.filter p := by rw [← hst.out]; exact (List.take_prefix (k + 1) xs).filter p
        obtain ⟨fn, tmps, assign, body, hy, hR⟩ := hY _ (p1, p2, p3) w2 hJ2 hpre
        dsimp only [encE] at hy
        replace hp := hide hp
        gi_wp2_with fail
        refine ⟨fun h => (by cases h), hR.mono ?_⟩
        rintro e W4 (⟨rfl, hJ4, hkp⟩ | ⟨rfl, hJx, hkp⟩)
        · have hf4 := hide (hkp.cell hf2.out)
          have hB4 := hB2.trans hkp.1
          have hJ5 : Hid (J (k + 1, (xs.take (k + 1)).filter p) W4) := hide (by rw [hst.out]; exact hJ4)
          clear hJ4 hkp hR hy hJ2 k50 k51 k52 s5 X5b
          gi_wp2
          go_roundw
          case rel => exact ⟨k + 1, by omega, by go_num, hJ5.out, hB4, hf4⟩
          case measure => simp [intOf]; omega
        · clear hR hy hJ2 k50 k51 k52 s5 X5b
          gi_wp2
          refine bodyPost_ret (results_none rfl _ _ _) rfl ?_
          exact ⟨⟨_, rfl⟩, .inr ⟨_, hpre, hJx⟩⟩
    · have hlt' : ¬ (k : Int) < (m : Int) := by omega
      have hkm : xs.take k = xs := List.take_of_length_le (by rw [← hm.out]; omega)
      have hkl : k = xs.length := by rw [← hm.out]; omega
      have hJ2 : Hid (J (xs.length, xs.filter p) wr) := hide (by have h := hJk; rw [hkm, hkl] at h; exact h)
      clear hkm hkl
      gi_wp2
      go_end0
      exact ⟨⟨_, rfl⟩, .inl (by first | exact hJ2.out | exact ⟨_, rfl, hJ2.out⟩)⟩
/-- the iterator's contract -/
theorem edges_seq (N gB fB n₀ : Nat) (A : Option Addr) (m c : Nat) (xs : List (Int × Int × Int)) (hm : m = xs.length) (hl : m ≤ 1000000) (hf : FuncId) (cb : Array Value) (p : Int × Int × Int → Bool) (henter : ∀ (args : Array Value) (w : World), (callFunc hf args).run Try.prog w = .ok (.enter hf args) w)
    (w : World) (hn0 : n₀ ≤ w.heap.size) (hg : w.cell? ⟨gB, 1, none⟩ = some (.slice A m c)) (hfc : w.cell? ⟨fB, 0, none⟩ = some (.func (.func hf) #[] cb)) (hr : Rd edgeE n₀ w A xs) :
    SeqS Fence.wide N Try.prog 65 #[.pointer (some ⟨gB, 0, none⟩), .pointer (some ⟨fB, 0, none⟩)] encE (KpE n₀ fB) (KpE n₀ fB) (fun s x _ => s.2 ++ [x] <+: xs.filter p) stE (HoldE hf cb xs p (KpE n₀ fB)) (0, []) (fun s => s = (xs.length, xs.filter p)) (fun s => s.2 <+: xs.filter p) w := by
  intro l J Jx W hW hJ _ hH hY h0
  have h1 := edges1_in l gB fB n₀ N 0 A m c xs hm hl hf cb p henter J Jx W hJ (Nat.le_trans hn0 hW.size) hH hY ((hW.cell (p := ⟨gB, 1, none⟩) (cell_lt hg)).trans hg) ((hW.cell (p := ⟨fB, 0, none⟩) (cell_lt hfc)).trans hfc) (hr.below (hW.mono hn0)) h0
  exact h1
theorem edges_any (n : Int) (A : Option Addr) (m c : Nat) (hf : FuncId) (cb : Array Value) (w : World) :
    Calls Try.prog 47 #[.agg #[.int .i64 n, .slice A m c], .func (.func hf) #[] cb] w fun e w' => e = .returned (.func (.func 65) #[] #[.pointer (some ⟨w.heap.size, 0, none⟩), .pointer (some ⟨w.heap.size + 1, 0, none⟩)]) ∧
      w' = (w.alloc (.cells #[.int .i64 n, .slice A m c] 24)).alloc (.cells #[.func (.func hf) #[] cb] 51) := by
  go_enter Try.func47, Try.ntmps47
  go_wp2
  go_ret
  exact ⟨rfl, rfl⟩
end Go.Proofs.Ytepgpiolhiidiaa
