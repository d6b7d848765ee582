/- The map gone through; what a stable sort of numbered pairs is. -/
import Derived.Test.YtecfceabioajkaaMapP
import Derived.Test.YtecfceabioajkaaOrd
import Derived.Maps.RangeWalk
namespace Go.Proofs.Ytecfceabioajkaa
open Go.RowKit Go.ChangeMaps Go.MapKept

def leftN (w : World) (r mb : Nat) : Nat := match w.heap[r]?, w.heap[mb]? with
  | some (.mapIter _ _ seen _), some (.map es _) => (leftOf es seen).size
  | _, _ => 0
def IterAt (w : World) (r mb : Nat) (n : Nat) : Prop := ∃ seen, w.heap[r]? = some (.mapIter (some mb) n seen n)

theorem ents_born (ms : List ((Int × Int) × Int)) {e : MapEntry} (he : e ∈ ents 0 ms) : ∃ i x v, ms[i]? = some (x, v) ∧ e = { key := pv x, val := .int .i64 v, born := i } := by
  obtain ⟨i, hi⟩ := List.getElem?_of_mem he
  rw [ents_get] at hi
  cases hm : ms[i]? with
  | none => rw [hm] at hi; cases hi
  | some m =>
    rw [hm] at hi
    refine ⟨i, m.1, m.2, hm, ?_⟩
    rw [Nat.zero_add] at hi
    exact (Option.some.inj hi).symm
theorem ents_borns : ∀ (i : Nat) (ms : List ((Int × Int) × Int)), (ents i ms).map (·.born) = List.range' i ms.length
  | _, [] => rfl
  | i, _ :: r => by simp [ents, ents_borns (i + 1) r, List.range'_succ]

section
variable {w : World} {r mb : Nat} {ms : List ((Int × Int) × Int)}
theorem next_pair (ty : TypeId) (h : PMap w mb ms) (hi : IterAt w r mb ms.length) :
    (Instr.next (.pointer (some ⟨r, 0, none⟩)) false ty).run Try.prog w = .ok (.tuple #[.bool false]) w ∨
    ∃ (i : Nat) (x : Int × Int) (v : Int) (w' : World), ms[i]? = some (x, v) ∧ (Instr.next (.pointer (some ⟨r, 0, none⟩)) false ty).run Try.prog w = .ok (.tuple #[.bool true, pv x, .int .i64 v]) w' ∧ PMap w' mb ms ∧ IterAt w' r mb ms.length ∧
      leftN w' r mb < leftN w r mb ∧ w.grownBy w' (some r) ∧ (Instr.entry (.pointer (some ⟨r, 0, none⟩))).run Try.prog w' = .ok (.tuple #[pv x, .int .i64 v]) w' := by
  obtain ⟨es, hb, he⟩ := h
  obtain ⟨seen, hr⟩ := hi
  have hold : ∀ x ∈ es.toList, x.born < ms.length := by
    intro x hx
    rw [he] at hx
    obtain ⟨i, y, v, h1, rfl⟩ := ents_born ms hx
    exact (List.getElem?_eq_some_iff.1 h1).1
  rcases run_next_at (P := Try.prog) w ty r mb ms.length ms.length seen es ms.length hr hb hold (Nat.le_refl _) with ⟨_, h1⟩ | ⟨e, hel, w1, hw1, hrun⟩
  · exact .inl h1
  · have hme := (mem_left hel).1
    have hme' := hme
    rw [he] at hme'
    obtain ⟨i, x, v, hm, rfl⟩ := ents_born ms hme'
    have hrm : r ≠ mb := fun e => by rw [e, hb] at hr; cases hr
    have hr1 : w1.heap[r]? = some (.mapIter (some mb) ms.length seen ms.length) := by rcases hw1 with rfl | rfl <;> exact hr
    have hb1 : w1.heap[mb]? = some (.map es ms.length) := by rcases hw1 with rfl | rfl <;> exact hb
    have hrl : r < w1.heap.size := (Array.getElem?_eq_some_iff.1 hr1).1
    have hset : (setBlock w1 r (.mapIter (some mb) ms.length (seen.push i) ms.length)).heap[r]? = some (.mapIter (some mb) ms.length (seen.push i) ms.length) := by
      simp [setBlock, hrl]
    have hoth : ∀ k, k ≠ r → (setBlock w1 r (.mapIter (some mb) ms.length (seen.push i) ms.length)).heap[k]? = w.heap[k]? := by
      intro k hk
      have : w1.heap[k]? = w.heap[k]? := by rcases hw1 with rfl | rfl <;> rfl
      rw [← this]
      simp [setBlock, Array.getElem?_setIfInBounds, Ne.symm hk]
    have hmb := (hoth mb (Ne.symm hrm)).trans hb
    refine .inr ⟨i, x, v, _, hm, hrun, ⟨es, hmb, he⟩, ⟨_, hset⟩, ?_, ⟨?_, ?_, ?_, ?_, fun k _ hk => hoth k (fun e => hk (by rw [e]))⟩, ?_⟩
    · unfold leftN
      rw [hset, hmb, hr, hb]
      exact left_shrinks es seen _ hel
    · rcases hw1 with rfl | rfl <;> rfl
    · rcases hw1 with rfl | rfl <;> rfl
    · rcases hw1 with rfl | rfl <;> rfl
    · rcases hw1 with rfl | rfl <;> simp [setBlock]
    · refine run_entry_at (P := Try.prog) _ r mb ms.length seen es ms.length { key := pv x, val := .int .i64 v, born := i } hset hmb hme ?_
      rw [he, ents_borns]
      exact List.nodup_range'
end

section
variable (w : World) {ops : Array Oper} {rest : List Oper} {o : Oper} {a : Act} {Q : Exit → Act → World → Prop} {r mb : Nat} {ms : List ((Int × Int) × Int)}
theorem wpList_rangeP (hg : o.guard = none) (m : Operand) (hop : o.op = Op.range 29 m) (hm : a.eval m = .map (some mb)) (h : PMap w mb ms)
    (hK : ∀ w', IterAt w' w.heap.size mb ms.length → PMap w' mb ms → Ext w w' → wpList Try.prog ops Q rest (a.put o.dst (.pointer (some ⟨w.heap.size, 0, none⟩))) w') : wpList Try.prog ops Q (o :: rest) a w := by
  refine wpList_plain hg fun K' hK' => ?_
  have h' := h
  obtain ⟨es, hb, he⟩ := h
  have hrun : (Instr.range 29 (.map (some mb))).run Try.prog w = .ok (.pointer (some ⟨w.heap.size, 0, none⟩)) (w.alloc (.mapIter (some mb) ms.length #[] ms.length)) := by
    simp [Instr.range, Sem.run_bind, run_underlying mapTy, MapKept.run_getObj_map hb, Result.andThen]
  unfold Oper.wp
  simp [execOp, hop, hm, hrun, Result.andThen]
  exact hK' _ _ (hK _ ⟨#[], heap_alloc_new w _⟩ (h'.alloc _) ((Below.refl _ _).alloc (Nat.le_refl _) _))
theorem wpList_nextP (hg : o.guard = none) (it : Operand) (hop : o.op = Op.next it false) (hit : a.eval it = .pointer (some ⟨r, 0, none⟩)) (h : PMap w mb ms) (hi : IterAt w r mb ms.length)
    (hDone : wpList Try.prog ops Q rest (a.put o.dst (.tuple #[.bool false])) w)
    (hMore : ∀ (i : Nat) (x : Int × Int) (v : Int) (w' : World), ms[i]? = some (x, v) → PMap w' mb ms → IterAt w' r mb ms.length → leftN w' r mb < leftN w r mb → w.grownBy w' (some r) → (Instr.entry (.pointer (some ⟨r, 0, none⟩))).run Try.prog w' = .ok (.tuple #[pv x, .int .i64 v]) w' →
      wpList Try.prog ops Q rest (a.put o.dst (.tuple #[.bool true, pv x, .int .i64 v])) w') : wpList Try.prog ops Q (o :: rest) a w := by
  refine wpList_plain hg fun K' hK' => ?_
  unfold Oper.wp
  rcases next_pair o.type h hi with hrun | ⟨i, x, v, w', hm, hrun, h1, h2, h3, h4, h5⟩
  · simp [execOp, hop, hit, hrun, Result.andThen]
    exact hK' _ _ hDone
  · simp [execOp, hop, hit, hrun, Result.andThen]
    exact hK' _ _ (hMore i x v w' hm h1 h2 h3 h4 h5)
end

/-- in order by key; of one key, by place -/
def Rp (a b : Int × Int) : Prop := ltP b a = false ∧ (a.1 = b.1 → a.2 < b.2)
theorem ins_Rp (x : Int × Int) : ∀ l : List (Int × Int), l.Pairwise Rp → (∀ y ∈ l, y.2 < x.2) → (ins ltP x l).Pairwise Rp
  | [], _, _ => by simp [ins]
  | y :: l, h, hx => by
    obtain ⟨h1, h2⟩ := List.pairwise_cons.1 h
    unfold ins
    split
    · rename_i hlt
      have hxy : x.1 < y.1 := by simpa [ltP, ltI] using hlt
      refine List.pairwise_cons.2 ⟨fun z hz => ?_, h⟩
      have hyz : y.1 ≤ z.1 := by
        rcases List.mem_cons.1 hz with rfl | hz
        · exact Int.le_refl _
        · have := (h1 z hz).1
          simp [ltP, ltI] at this
          exact this
      exact ⟨by simp [ltP, ltI]; omega, fun e => by omega⟩
    · rename_i hlt
      refine List.pairwise_cons.2 ⟨fun z hz => ?_, ins_Rp x l h2 (fun y hy => hx y (List.mem_cons_of_mem _ hy))⟩
      rcases mem_ins.1 hz with rfl | hz
      · exact ⟨by simpa using hlt, fun _ => hx y (by simp)⟩
      · exact h1 z hz
theorem isort_Rp : ∀ (n : Nat) (xs : List (Int × Int)), xs.length = n → (∀ (j : Nat) (x : Int × Int), xs[j]? = some x → x.2 = (j : Int)) → (isort ltP xs).Pairwise Rp
  | 0, xs, hl, _ => by
    have : xs = [] := List.eq_nil_of_length_eq_zero hl
    subst this
    exact List.Pairwise.nil
  | n + 1, xs, hl, hp => by
    obtain ⟨ys, x, rfl⟩ : ∃ ys x, xs = ys ++ [x] := by
      rcases List.eq_nil_or_concat xs with rfl | ⟨ys, y, rfl⟩
      · simp at hl
      · exact ⟨ys, y, by simp⟩
    have hyl : ys.length = n := by simpa using hl
    have hys : ∀ (j : Nat) (x : Int × Int), ys[j]? = some x → x.2 = (j : Int) := fun j z hz => hp j z (by rw [List.getElem?_append_left (List.getElem?_eq_some_iff.1 hz).1]; exact hz)
    rw [isort_snoc]
    refine ins_Rp x _ (isort_Rp n ys hyl hys) (fun y hy => ?_)
    have hy' : y ∈ ys := (isort_perm (lt := ltP) ys).mem_iff.1 hy
    obtain ⟨j, hj⟩ := List.getElem?_of_mem hy'
    have h1 := hys j y hj
    have h2 := hp ys.length x (by simp)
    have := (List.getElem?_eq_some_iff.1 hj).1
    omega
theorem Rp_ne {a b : Int × Int} (h : Rp a b) : a ≠ b := fun e => by
  subst e
  have := h.2 rfl
  omega
end Go.Proofs.Ytecfceabioajkaa
