/- lex: the runes of a text, one by one; how many bytes go on; which texts are words. -/
import Derived.Test.YtlianjnmfgakkaaDoorLexA
import Derived.Test.YtlianjnmfgakkaaDoorRange
import Derived.RangeFuncBox
import Derived.Shelf.Abstract
import Derived.WalkKit
import Derived.OwnWalkIn
import Derived.TacticsInMore
import Derived.LoopNIn
import Derived.LoopIn
import Derived.Maps.AppendAt
namespace Go.Proofs.YtlianjnmfgakkaaDoor
open Go.RowKit Go.Shelf Go.Lib
attribute [local go_sem] Oper.semAt_some

/-- what is handed over of a rune: its place, the rune, and the boxes of both -/
abbrev RuneAt := (Nat × Nat) × (Nat × Nat)
def runeVals (sB : Nat) (x : RuneAt) : Array Value := #[.int .i64 (x.1.1 : Int), .func (.func 66) #[] #[.pointer (some ⟨sB, 0, none⟩), .pointer (some ⟨x.2.1, 0, none⟩), .pointer (some ⟨x.2.2, 0, none⟩)]]
/-- the boxes hold the rune and its place -/
def RuneX (s : ByteArray) (x : RuneAt) (W : World) : Prop := (x.1.1 < s.size ∧ x.1.2 = rune s x.1.1) ∧ W.cell? ⟨x.2.1, 0, none⟩ = some (.int .i64 (x.1.1 : Int)) ∧ W.cell? ⟨x.2.2, 0, none⟩ = some (.int .i32 (x.1.2 : Int))
theorem cell_lt {W : World} {b o : Nat} {v : Value} (h : W.cell? ⟨b, o, none⟩ = some v) : b < W.heap.size := World.block_lt_of_cell? W _ h
theorem runeX_own (s : ByteArray) (B : Nat) : OwnFrom B (RuneX s) := by
  rintro x A A' row ⟨h0, h1, h2⟩ hg hr
  exact ⟨h0, cell_kept h1 hg (fun r e => (hr r e).2), cell_kept h2 hg (fun r e => (hr r e).2)⟩
set_option maxRecDepth 100000 in
set_option maxHeartbeats 4000000 in
theorem runes1_in (l sB n₀ N : Nat) (s : ByteArray) (J Jx : List RuneAt → World → Prop) (W : World) (hJ : AbidesFrom W.heap.size J) (hn0 : n₀ ≤ W.heap.size)
    (hY : ∀ pre x W1, J pre W1 → RuneX s x W1 → pre.length < s.size → YieldAt Fence.wide (N - 1) Tryd.prog l (runeVals sB x) W1 fun e W' =>
      (e = .returned (.bool true) ∧ J (pre ++ [x]) W' ∧ KeepsWalks W1 W' ∧ Below n₀ W1 W') ∨ (e = .returned (.bool false) ∧ Jx (pre ++ [x]) W'))
    (hsB : W.cell? ⟨sB, 0, none⟩ = some (.string s)) (hs0 : sB < n₀) (hm : s.size ≤ maxLen) (h0 : J [] W) :
    CallsIn Fence.wide N Tryd.prog 65 #[.func (.yield l) #[] #[], .pointer (some ⟨sB, 0, none⟩)] W fun e W' => (∃ v, e = .returned v) ∧
      ((∃ ys : List RuneAt, ys.map (·.1) = rns s 0 ∧ J ys W') ∨ (∃ pre : List RuneAt, (pre.map (·.1)) <+: rns s 0 ∧ Jx pre W')) := by
  refine callsIn_of_wp Tryd.func65 rfl trivial ?_ rfl
  simp only [Tryd.ntmps65, List.size_toArray, List.length_cons, List.length_nil, Nat.reduceAdd, Nat.reduceSub, Array.replicate_succ, Array.replicate_zero, List.push_toArray, List.append_toArray, List.nil_append, List.cons_append]
  gi_wp2
  obtain ⟨k, hk⟩ : ∃ k, k = W.heap.size := ⟨_, rfl⟩
  have hit0 : Hid ((W.iter s 0).heap[k]? = some (.stringIter s 0)) := hide (by rw [hk]; exact World.iter_heap W s 0)
  have hB0 : Below n₀ W (W.iter s 0) := (Below.refl _ _).alloc hn0 _
  have hJ0 : J [] (W.iter s 0) := hJ _ _ _ none h0 (World.grownBy_alloc W _ none) (fun r e => by cases e)
  rw [← hk]
  replace hk := hide hk
  gi_loopw [] (fun wr => ∃ (pre : List RuneAt) (pos : Nat), Hid (pre.map (·.1) ++ rns s pos = rns s 0) ∧ pre.length ≤ pos ∧ pos ≤ s.size ∧ Hid (wr.heap[k]? = some (.stringIter s pos)) ∧ J pre wr ∧ Below n₀ W wr) (fun wr => s.size - wr.iterPos k)
  case atStart => exact ⟨[], 0, hide rfl, Nat.le_refl _, Nat.zero_le _, hit0, hJ0, hB0⟩
  case round =>
    clear hit0 hB0 hJ0
    obtain ⟨pre, pos, hpre, hpl, hps, hit, hJp, hB⟩ := hrel
    have hn1 := hB.size
    have hkk : n₀ ≤ k := by rw [hk.out]; exact hn0
    by_cases hp : pos < s.size
    · have hnx : ∀ ty, (Instr.next (.pointer (some ⟨k, 0, none⟩)) true ty).run Tryd.prog wr = _ := fun ty => run_next_any_at wr k s pos ty hit.out hp
      rw [show (Utf8.decode s pos).1 = rune s pos from rfl, show (Utf8.decode s pos).2 = width s pos from rfl] at hnx
      have hin := width_in hp
      have hwp := width_pos s pos
      have hpre2 := hpre.out
      rw [rns_in hp] at hpre2
      have hri := rune_le s pos
      obtain ⟨r, hr⟩ : ∃ r, r = rune s pos := ⟨_, rfl⟩
      obtain ⟨wd, hwd⟩ : ∃ x, x = width s pos := ⟨_, rfl⟩
      rw [← hr] at hnx hpre2 hri
      rw [← hwd] at hnx hpre2 hin hwp
      obtain ⟨wr2, hwr2⟩ : ∃ wr2, wr2 = wr.iterAt k s (pos + wd) := ⟨_, rfl⟩
      have hit2 : wr2.heap[k]? = some (.stringIter s (pos + wd)) := by rw [hwr2]; exact iterAt_heap wr k s pos (pos + wd) hit.out
      have hB2 : Below n₀ W wr2 := by rw [hwr2]; exact below_iterAt hB hkk s (pos + wd)
      have hg2 : wr.grownBy wr2 (some k) := by rw [hwr2]; exact ⟨rfl, rfl, rfl, by rw [iterAt_size]; exact Nat.le_refl _, fun i _ hi => iterAt_other _ _ _ _ _ (fun e => hi (by rw [e]))⟩
      have hJ2 : J pre wr2 := hJ _ _ _ _ hJp hg2 (fun r e => by cases e; exact ⟨Nat.le_of_eq hk.out.symm, _, hit.out, rfl⟩)
      have hip : wr.iterPos k = pos := by simp only [World.iterPos, hit.out]
      rw [← hwr2] at hnx
      obtain ⟨wr3, hwr3⟩ : ∃ x, x = (wr2.alloc (.cells #[.int .i64 (pos : Int)] 3)).alloc (.cells #[.int .i32 (r : Int)] 21) := ⟨_, rfl⟩
      have hJ3 : J pre wr3 := by
        rw [hwr3]
        exact hJ _ _ _ none (hJ _ _ _ none hJ2 (World.grownBy_alloc _ _ none) (fun r e => by cases e)) (World.grownBy_alloc _ _ none) (fun r e => by cases e)
      have hB3 : Below n₀ W wr3 := by rw [hwr3]; exact (hB2.alloc (by have := hB2.size; omega) _).alloc (by have := hB2.size; simp; omega) _
      have hE23 : Below wr2.heap.size wr2 wr3 := by rw [hwr3]; exact ((Below.refl _ _).alloc (Nat.le_refl _) _).alloc (by simp) _
      have hX3 : RuneX s ((pos, r), (wr2.heap.size, wr2.heap.size + 1)) wr3 := by
        refine ⟨⟨hp, hr⟩, ?_, ?_⟩
        · rw [hwr3]; exact ((Box.new wr2 _ _).alloc _).cell
        · rw [hwr3]
          have h := Box.new (wr2.alloc (.cells #[.int .i64 (pos : Int)] 3)) 21 (.int .i32 (r : Int))
          rw [World.size_alloc] at h
          exact h.cell
      have hit3 : wr3.heap[k]? = some (.stringIter s (pos + wd)) := (hE23.block k (Array.getElem?_eq_some_iff.1 hit2).1).trans hit2
      obtain ⟨fn, tmps, assign, body, hy, hR⟩ := hY pre _ wr3 hJ3 hX3 (by omega)
      rw [hwr3] at hy
      dsimp only [runeVals] at hy
      have hsc : wr2.cell? ⟨sB, 0, none⟩ = some (.string s) := (hB2.cell (p := ⟨sB, 0, none⟩) hs0).trans hsB
      have hsb : sB < wr2.heap.size := cell_lt hsc
      replace hJ3 := hide hJ3
      replace hX3 := hide hX3
      replace hB3 := hide hB3
      replace hit3 := hide hit3
      replace hr := hide hr
      replace hwd := hide hwd
      replace hpre2 := hide hpre2
      replace hip := hide hip
      rw [hwr3] at hR
      clear hwr2 hit2 hJ2 hg2 hE23 hJp hit hpre hB
      gi_wp2
      refine ⟨fun h => (by cases h), ?_⟩
      refine hR.mono ?_
      rintro e W4 (⟨rfl, hJ4, hkw, hbl⟩ | ⟨rfl, hJx4⟩)
      · have hit4 : Hid (W4.heap[k]? = some (.stringIter s (pos + wd))) := hide (hkw.same k _ (by rw [← hwr3]; exact hit3.out) rfl)
        have hB4 : Below n₀ W W4 := (hB3.out.trans (by rw [hwr3]; exact hbl))
        have hpre4 : Hid ((pre ++ [((pos, r), (wr2.heap.size, wr2.heap.size + 1))]).map (·.1) ++ rns s (pos + wd) = rns s 0) := hide (by
          have h := hpre2.out
          rw [← h]
          simp)
        have hl4 : (pre ++ [((pos, r), (wr2.heap.size, wr2.heap.size + 1))]).length ≤ pos + wd := by rw [List.length_append]; simp; omega
        gi_wp2
        go_roundw
        case rel => exact ⟨_, pos + wd, hpre4, hl4, hin, hit4, hJ4, hB4⟩
        case measure =>
          have h1 : W4.iterPos k = pos + wd := by simp only [World.iterPos, hit4.out]
          have h2 := hip.out
          omega
      · have hpx : (pre ++ [((pos, r), (wr2.heap.size, wr2.heap.size + 1))]).map (·.1) <+: rns s 0 := by
          rw [← hpre2.out]
          exact ⟨rns s (pos + wd), by simp⟩
        gi_wp2
        refine bodyPost_ret (results_none rfl _ _ _) rfl ?_
        exact ⟨⟨_, rfl⟩, .inr ⟨_, hpx, hJx4⟩⟩
    · have hnx : ∀ ty, (Instr.next (.pointer (some ⟨k, 0, none⟩)) true ty).run Tryd.prog wr = _ := fun ty => run_next_end_at wr k s pos ty hit.out hp
      have hpre2 := hpre.out
      rw [rns_end hp, List.append_nil] at hpre2
      gi_wp2
      go_end0
      exact ⟨⟨_, rfl⟩, .inl ⟨pre, hpre2, hJp⟩⟩
/-- the iterator's contract -/
theorem runes_stops (N sB : Nat) (s : ByteArray) (w : World) (hsB : w.cell? ⟨sB, 0, none⟩ = some (.string s)) (hm : s.size ≤ maxLen) :
    SeqX Fence.wide N Tryd.prog 65 #[.pointer (some ⟨sB, 0, none⟩)] (runeVals sB) (fun A B => KeepsWalks A B ∧ Below w.heap.size A B) (fun _ _ => True) (RuneX s) (fun xs => xs.map (·.1) = rns s 0) (fun pre => pre.map (·.1) <+: rns s 0) s.size w := by
  intro l J Jx W hW hJ _ hY h0
  have hlt := cell_lt hsB
  exact runes1_in l sB w.heap.size N s J Jx W hJ hW.size (fun pre x W1 h1 h2 h3 => (hY pre x W1 h1 h2 h3).mono fun e W' h => h.imp id fun h => ⟨h.1, h.2.1⟩) ((hW.cell (p := ⟨sB, 0, none⟩) hlt).trans hsB) hlt hm h0
theorem runes_any (s : ByteArray) (w : World) : Calls Tryd.prog 51 #[.string s] w fun e w' => e = .returned (.func (.func 65) #[] #[.pointer (some ⟨w.heap.size, 0, none⟩)]) ∧ w' = w.alloc (.cells #[.string s] 9) := by
  go_enter Tryd.func51, Tryd.ntmps51
  go_wp2
  go_ret
  exact ⟨rfl, rfl⟩
end Go.Proofs.YtlianjnmfgakkaaDoor
