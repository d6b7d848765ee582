/- lex.tokens: the tokens of a text, one by one. -/
import Derived.Test.YtlianjnmfgakkaaDoorLexG
import Derived.Test.YtlianjnmfgakkaaDoorRangeS
import Derived.RangeFuncBox
import Derived.Shelf.Abstract
import Derived.WalkKit
import Derived.OwnWalkIn
import Derived.TacticsInMore
import Derived.LoopNIn
import Derived.LoopIn
namespace Go.Proofs.YtlianjnmfgakkaaDoor
open Go.RowKit Go.Shelf
attribute [local go_sem] Oper.semAt_some

abbrev fndV (x : Fnd) : Value := .agg #[.int .i64 x.1.kind, .int .i64 x.1.pl, .string x.1.text, .bool x.1.glued, .int .i64 (x.2.1 : Int), .int .i64 x.2.2]
theorem ext_grownN {W W' : World} (h : Ext W W') : W.grownBy W' none := ⟨h.os, h.tape, h.output, h.size, fun k hk _ => h.block k hk⟩
theorem LaidU.below {w w' : World} (h : LaidU w) (hE : Below w.heap.size w w') : LaidU w' := h.ext hE
/-- what a round keeps: the memory below a bound, and the text's box -/
def KpS (n₀ sB : Nat) (A B : World) : Prop := Below n₀ A B ∧ ∀ o, A.heap[sB]? = some o → B.heap[sB]? = some o
theorem KpS.trans {n₀ sB : Nat} {A B C : World} (h : KpS n₀ sB A B) (k : KpS n₀ sB B C) : KpS n₀ sB A C := ⟨h.1.trans k.1, fun o ho => k.2 o (h.2 o ho)⟩
theorem KpS.below {n₀ sB m : Nat} {A B : World} (h : Below m A B) (h1 : n₀ ≤ m) (h2 : sB < m) : KpS n₀ sB A B := ⟨h.mono h1, fun o ho => (h.block sB h2).trans ho⟩
theorem KpS.cell {n₀ sB : Nat} {A B : World} {v : Value} (h : KpS n₀ sB A B) (hc : A.cell? ⟨sB, 0, none⟩ = some v) : B.cell? ⟨sB, 0, none⟩ = some v := by
  have hl := cell_lt hc
  have ho : A.heap[sB]? = some A.heap[sB] := Array.getElem?_eq_getElem hl
  have h2 := h.2 _ ho
  unfold World.cell? at hc ⊢
  simp only [ho] at hc
  simp only [h2]
  exact hc
theorem KpS.turn {n₀ sB m : Nat} (h1 : n₀ ≤ m) (h2 : sB < m) (W : World) (l : Nat) (o' : Obj) (hl : m ≤ l) : KpS n₀ sB W (W.putObj l o') :=
  ⟨⟨rfl, rfl, rfl, by simp, fun k hk => World.putObj_heap_other (by omega)⟩, fun o ho => (World.putObj_heap_other (by omega)).trans ho⟩
theorem enter_tokens1 (args : Array Value) (w : World) : (callFunc 58 args).run Tryd.prog w = .ok (.enter 58 args) w := enters_of Tryd.func58 (by kernel_rfl) rfl args w
theorem fnd_le (s : ByteArray) : ∀ n p, p ≤ s.size → s.size - p ≤ n → (fnd s p).length ≤ s.size - p + 1 := by
  intro n
  induction n with
  | zero =>
    intro p hp hn
    by_cases h0 : (nextN s p).2.2 = 0
    · by_cases h5 : (nextN s p).1.kind = 5
      · rw [fnd_stop hp h0 h5]; simp
      · have := (next_cases s p hp).2 h0 h5
        omega
    · rw [fnd_err hp h0]; simp
  | succ n ih =>
    intro p hp hn
    by_cases h0 : (nextN s p).2.2 = 0
    · by_cases h5 : (nextN s p).1.kind = 5
      · rw [fnd_stop hp h0 h5]; simp
      · have h1 := (next_cases s p hp).2 h0 h5
        have := ih (nextN s p).2.1 h1.2 (by omega)
        rw [fnd_more hp h0 h5, List.length_cons]
        omega
    · rw [fnd_err hp h0]; simp
set_option maxRecDepth 100000 in
set_option maxHeartbeats 4000000 in
theorem tokens1_in (l sB N : Nat) (s : ByteArray) (J Jx : List Fnd → World → Prop) (w0 W : World) (hB0 : Below w0.heap.size w0 W) (hJ : AbidesFrom W.heap.size J)
    (hY : ∀ pre x W1, J pre W1 → pre.length ≤ s.size → YieldAt Fence.wide (N - 1) Tryd.prog l #[fndV x] W1 fun e W' =>
      (e = .returned (.bool true) ∧ J (pre ++ [x]) W' ∧ KpS w0.heap.size sB W1 W') ∨ (e = .returned (.bool false) ∧ Jx (pre ++ [x]) W' ∧ True))
    (hsB : W.cell? ⟨sB, 0, none⟩ = some (.string s)) (hU : LaidU w0) (hm : s.size ≤ 1000000) (h0 : J [] W) :
    CallsIn Fence.wide N Tryd.prog 58 #[.func (.yield l) #[] #[], .pointer (some ⟨sB, 0, none⟩)] W fun e W' => (∃ v, e = .returned v) ∧
      ((∃ ys : List Fnd, ys = fnd s 0 ∧ J ys W') ∨ (∃ pre : List Fnd, pre <+: fnd s 0 ∧ Jx pre W')) := by
  refine callsIn_of_wp Tryd.func58 rfl trivial ?_ rfl
  simp only [Tryd.ntmps58, List.size_toArray, List.length_cons, List.length_nil, Nat.reduceAdd, Nat.reduceSub, Array.replicate_succ, Array.replicate_zero, List.push_toArray, List.append_toArray, List.nil_append, List.cons_append]
  gi_wp2
  have hB0' := hide hB0
  have hJ0 := hide h0
  have hcs0 := hide hsB
  clear hB0 h0 hsB
  gi_loopw [3] (fun x wr => ∃ (pre : List Fnd) (p : Nat), x = .int .i64 (p : Int) ∧ p ≤ s.size ∧ Hid (pre ++ fnd s p = fnd s 0) ∧ Hid (J pre wr) ∧ Hid (Below w0.heap.size w0 wr) ∧ Hid (wr.cell? ⟨sB, 0, none⟩ = some (.string s)) ∧ W.heap.size ≤ wr.heap.size) (fun x _ => s.size - (intOf x).toNat)
  case atStart => exact ⟨[], 0, rfl, Nat.zero_le _, hide rfl, hJ0, hB0', hcs0, Nat.le_refl _⟩
  case round =>
    clear hB0' hJ0 hcs0
    obtain ⟨pre, p, rfl, hp, hpre, hJp, hB, hcs', hWs⟩ := hrel
    have hcs := hcs'.out
    have hcl := cell_lt hcs
    have hUr : LaidU wr := hU.below hB.out
    obtain ⟨f, hf⟩ : ∃ f, f = nextN s p := ⟨_, rfl⟩
    have hnx := next_any s p hp hm wr hUr
    have hnc := next_cases s p hp
    have hlen := congrArg List.length hpre.out
    have hfl := fnd_le s _ 0 (Nat.zero_le _) (Nat.le_refl _)
    rw [List.length_append] at hlen
    have hstp := fnd_stop (s := s) (p := p) hp
    have herr := fnd_err (s := s) (p := p) hp
    have hmor := fnd_more (s := s) (p := p) hp
    rw [← hf] at hnx hnc hstp herr hmor
    obtain ⟨⟨k, pl, tx, gl⟩, q, er⟩ := f
    simp only at hnx hnc hstp herr hmor
    replace hf := hide hf
    replace hnx := hide hnx
    replace hlen := hide hlen
    replace hfl := hide hfl
    replace hpre := hide hpre.out
    gi_wp2_with fail
    refine ⟨trivial, fun h => (by cases h), (callsIn_wide.2 hnx.out).mono ?_⟩
    rintro e w2 ⟨rfl, hE⟩
    clear hnx
    dsimp only [tokV]
    have hJ2 := hide (hJ _ _ _ none hJp.out (ext_grownN hE) (fun r e => by cases e))
    have hB2 := hide (hB.out.trans (hE.mono hB.out.size))
    have hc2 := hide (((bcell hE).1 sB 0 hcl).trans hcs)
    have hl2 := Nat.lt_of_lt_of_le hcl hE.size
    have hW2 := Nat.le_trans hWs hE.size
    clear hJp hB hcs hcl hUr hE hcs'
    have hpl : pre.length ≤ s.size + 1 := by have := hlen.out; have := hfl.out; omega
    by_cases he0 : er = 0
    · by_cases hk5 : k = 5
      · have hst := hstp he0 hk5
        have hfin : Hid (pre = fnd s 0) := hide (by rw [← hpre.out, hst, List.append_nil])
        clear hnc hstp herr hmor hst
        subst he0 hk5
        gi_wp2
        refine bodyPost_ret (results_none rfl _ _ _) rfl ?_
        exact ⟨⟨_, rfl⟩, .inl ⟨pre, hfin.out, hJ _ _ _ none hJ2.out (World.grownBy_alloc _ _ none) (fun r e => by cases e)⟩⟩
      · have hmo := hmor he0 hk5
        obtain ⟨hq1, hq2⟩ := hnc.2 he0 hk5
        have hpre2 : Hid ((pre ++ [(⟨k, pl, tx, gl⟩, q, er)]) ++ fnd s q = fnd s 0) := hide (by rw [← hpre.out, hmo, List.append_assoc]; rfl)
        have hpx : Hid (pre ++ [(⟨k, pl, tx, gl⟩, q, er)] <+: fnd s 0) := hide ⟨fnd s q, hpre2.out⟩
        have hpl2 : pre.length ≤ s.size := by
          have h1 := hlen.out
          rw [hmo, List.length_cons] at h1
          have := hfl.out
          omega
        have hk5' : (k == 5) = false := beq_eq_false_iff_ne.2 hk5
        clear hnc hstp herr hmor hmo
        subst he0
        obtain ⟨w3, hw3⟩ : ∃ x, x = w2.alloc (.cells #[.int .i64 k, .int .i64 pl, .string tx, .bool gl] 29) := ⟨_, rfl⟩
        have hJ3 : J pre w3 := by rw [hw3]; exact hJ _ _ _ none hJ2.out (World.grownBy_alloc _ _ none) (fun r e => by cases e)
        have hB3 : Hid (Below w0.heap.size w0 w3) := hide (by rw [hw3]; exact hB2.out.alloc hB2.out.size _)
        have hc3 : Hid (w3.cell? ⟨sB, 0, none⟩ = some (.string s)) := hide (by rw [hw3]; exact (Below.cell ((Below.refl w2.heap.size w2).alloc (Nat.le_refl _) _) (p := ⟨sB, 0, none⟩) hl2).trans hc2.out)
        obtain ⟨fn, tmps, assign, body, hy, hR⟩ := hY pre (⟨k, pl, tx, gl⟩, q, 0) w3 hJ3 hpl2
        rw [hw3] at hy hR hB3 hc3
        dsimp only [fndV] at hy
        clear hw3 hJ3
        gi_wp2
        refine ⟨fun h => (by cases h), ?_⟩
        refine hR.mono ?_
        rintro e W4 (⟨rfl, hJ4, hb⟩ | ⟨rfl, hJx4, -⟩)
        · gi_wp2
          go_roundw
          case rel => exact ⟨_, q, rfl, hq2, hpre2, hide hJ4, hide (hB3.out.trans hb.1), hide (hb.cell hc3.out), Nat.le_trans hW2 (Nat.le_trans (by simp) hb.1.size)⟩
          case measure => simp [intOf]; omega
        · gi_wp2
          refine bodyPost_ret (results_none rfl _ _ _) rfl ?_
          exact ⟨⟨_, rfl⟩, .inr ⟨_, hpx.out, hJx4⟩⟩
    · have her := herr he0
      have hfin : Hid (pre ++ [(⟨k, pl, tx, gl⟩, q, er)] = fnd s 0) := hide (by rw [← hpre.out, her])
      have hpl2 : pre.length ≤ s.size := by
        have h1 := hlen.out
        rw [her, List.length_singleton] at h1
        have := hfl.out
        omega
      have he0' : (er == 0) = false := beq_eq_false_iff_ne.2 he0
      have he0'' : (er != 0) = true := by rw [bne, he0']; rfl
      clear hnc hstp herr hmor her
      obtain ⟨w3, hw3⟩ : ∃ x, x = w2.alloc (.cells #[.int .i64 k, .int .i64 pl, .string tx, .bool gl] 29) := ⟨_, rfl⟩
      have hJ3 : J pre w3 := by rw [hw3]; exact hJ _ _ _ none hJ2.out (World.grownBy_alloc _ _ none) (fun r e => by cases e)
      have hB3 : Hid (Below w0.heap.size w0 w3) := hide (by rw [hw3]; exact hB2.out.alloc hB2.out.size _)
      have hc3 : Hid (w3.cell? ⟨sB, 0, none⟩ = some (.string s)) := hide (by rw [hw3]; exact (Below.cell ((Below.refl w2.heap.size w2).alloc (Nat.le_refl _) _) (p := ⟨sB, 0, none⟩) hl2).trans hc2.out)
      obtain ⟨fn, tmps, assign, body, hy, hR⟩ := hY pre (⟨k, pl, tx, gl⟩, q, er) w3 hJ3 hpl2
      rw [hw3] at hy hR hB3 hc3
      dsimp only [fndV] at hy
      clear hw3 hJ3
      gi_wp2
      refine ⟨fun h => (by cases h), ?_⟩
      refine hR.mono ?_
      rintro e W4 (⟨rfl, hJ4, hb⟩ | ⟨rfl, hJx4, -⟩)
      · gi_wp2
        refine bodyPost_ret (results_none rfl _ _ _) rfl ?_
        exact ⟨⟨_, rfl⟩, .inl ⟨_, hfin.out, hJ4⟩⟩
      · gi_wp2
        refine bodyPost_ret (results_none rfl _ _ _) rfl ?_
        exact ⟨⟨_, rfl⟩, .inr ⟨_, ⟨[], by rw [List.append_nil]; exact hfin.out⟩, hJx4⟩⟩
/-- the iterator's contract -/
theorem tokens_seq (N sB : Nat) (s : ByteArray) (w0 w : World) (hB0 : Below w0.heap.size w0 w) (hsB : w.cell? ⟨sB, 0, none⟩ = some (.string s)) (hU : LaidU w0) (hm : s.size ≤ 1000000) :
    SeqS Fence.wide N Tryd.prog 58 #[.pointer (some ⟨sB, 0, none⟩)] (fun x => #[fndV x]) (KpS w0.heap.size sB) (fun _ _ => True) (fun pre (_ : Fnd) _ => pre.length ≤ s.size) (fun pre x => pre ++ [x]) (fun _ => True) [] (fun xs => xs = fnd s 0) (fun pre => pre <+: fnd s 0) w := by
  intro l J Jx W hW hJ _ _ hY h0
  have hlt := cell_lt hsB
  exact tokens1_in l sB N s J Jx w0 W (hB0.trans (hW.mono hB0.size)) hJ (fun pre x W1 h1 h2 => hY pre x W1 h1 h2) ((hW.cell (p := ⟨sB, 0, none⟩) hlt).trans hsB) hU hm h0
theorem tokens_any (s : ByteArray) (w : World) : Calls Tryd.prog 38 #[.string s] w fun e w' => e = .returned (.func (.func 58) #[] #[.pointer (some ⟨w.heap.size, 0, none⟩)]) ∧ w' = w.alloc (.cells #[.string s] 9) := by
  go_enter Tryd.func38, Tryd.ntmps38
  go_wp2
  go_ret
  exact ⟨rfl, rfl⟩
end Go.Proofs.YtlianjnmfgakkaaDoor
