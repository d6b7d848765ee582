/- A map of numbers by pairs, of the call's own, entry by entry. -/
import Derived.Test.YtecfceabioajkaaRef
import Derived.Test.YtecfceabioajkaaMapS
import Derived.Maps.RangeRun
namespace Go.Proofs.Ytecfceabioajkaa
open Go.RowKit Go.ChangeMaps Go.MapKept

def pv (x : Int × Int) : Value := .agg #[.int .i64 x.1, .int .i64 x.2]
theorem equal_int (n : Nat) (a b : Int) (w : World) : (Op.equalIn (n + 1) 3 (.int .i64 a) (.int .i64 b)).run Try.prog w = .ok (a == b) w := by
  rw [Op.equalIn]
  simp [go_sem]
theorem equal_pair (x y : Int × Int) (w : World) : (Op.equal 26 (pv x) (pv y)).run Try.prog w = .ok (decide (x = y)) w := by
  obtain ⟨a, b⟩ := x
  obtain ⟨p, q⟩ := y
  show Sem.run _ (Op.equalIn (9999 + 1) _ _ _) w = _
  rw [Op.equalIn]
  by_cases h1 : a = p <;> by_cases h2 : b = q <;> simp [go_sem, pv, equal_int, h1, h2]
theorem check_int (e : Bool) (n : Nat) (a : Int) (w : World) : (Instr.checkKey e (n + 1) 3 (.int .i64 a)).run Try.prog w = .ok () w := by
  unfold Instr.checkKey
  simp [go_sem]
theorem check_pair (e : Bool) (x : Int × Int) (w : World) : (Instr.checkKey e 10000 26 (pv x)).run Try.prog w = .ok () w := by
  show (Instr.checkKey e (9999 + 1) _ _).run Try.prog w = .ok () w
  unfold pv
  rw [Instr.checkKey]
  simp [go_sem, check_int]
theorem stays_pair (x : Int × Int) (w : World) : (Instr.keyThatStays (pv x) (pv x)).run Try.prog w = .ok (pv x) w := by
  have : Instr.sameBits 10000 (pv x) (pv x) = true := by
    show Instr.sameBits (9998 + 1 + 1) _ _ = true
    simp [Instr.sameBits, pv]
  simp [Instr.keyThatStays, this]

/-- the entries of a map that only grew: the i-th was born at i -/
def ents : Nat → List ((Int × Int) × Int) → List MapEntry
  | _, [] => []
  | i, (x, v) :: r => { key := pv x, val := .int .i64 v, born := i } :: ents (i + 1) r
theorem ents_length : ∀ (i : Nat) (ms : List ((Int × Int) × Int)), (ents i ms).length = ms.length
  | _, [] => rfl
  | i, _ :: r => by simp [ents, ents_length (i + 1) r]
theorem ents_get : ∀ (i j : Nat) (ms : List ((Int × Int) × Int)), (ents i ms)[j]? = (ms[j]?).map fun m => { key := pv m.1, val := .int .i64 m.2, born := i + j }
  | _, _, [] => by simp [ents]
  | i, 0, _ :: r => by simp [ents]
  | i, j + 1, _ :: r => by
    have e : i + 1 + j = i + (j + 1) := by omega
    simp [ents, ents_get (i + 1) j r, e]
theorem ents_snoc : ∀ (i : Nat) (ms : List ((Int × Int) × Int)) (x : Int × Int) (v : Int), ents i (ms ++ [(x, v)]) = ents i ms ++ [{ key := pv x, val := .int .i64 v, born := i + ms.length }]
  | _, [], _, _ => rfl
  | i, _ :: r, x, v => by
    have e : i + 1 + r.length = i + (r.length + 1) := by omega
    simp [ents, ents_snoc (i + 1) r x v, e]
theorem ents_set (i : Nat) (ms : List ((Int × Int) × Int)) (j : Nat) (x : Int × Int) (v u : Int) (h : ms[j]? = some (x, v)) : (ents i ms).modify j (fun e => { e with val := .int .i64 u }) = ents i (ms.set j (x, u)) := by
  apply List.ext_getElem?
  intro k
  rw [List.getElem?_modify, ents_get, ents_get, List.getElem?_set]
  by_cases hk : j = k
  · subst hk
    obtain ⟨this, e⟩ := List.getElem?_eq_some_iff.1 h
    simp [this, e]
  · simp [hk]
theorem find_pair (x : Int × Int) (w : World) : ∀ (ms : List ((Int × Int) × Int)) (b i : Nat),
    (∃ j v, ms[j]? = some (x, v) ∧ (Instr.findAsking 26 (pv x) (ents b ms) i).run Try.prog w = .ok (some (i + j, .int .i64 v)) w) ∨
    ((∀ m ∈ ms, m.1 ≠ x) ∧ (Instr.findAsking 26 (pv x) (ents b ms) i).run Try.prog w = .ok none w)
  | [], b, i => .inr ⟨by simp, rfl⟩
  | (y, v) :: ms, b, i => by
    by_cases hxy : x = y
    · subst hxy
      refine .inl ⟨0, v, rfl, ?_⟩
      simp [ents, Instr.findAsking, Sem.run_bind, equal_pair, Result.andThen]
    · rcases find_pair x w ms (b + 1) (i + 1) with ⟨j, u, h1, h2⟩ | ⟨h1, h2⟩
      · refine .inl ⟨j + 1, u, by simpa using h1, ?_⟩
        have e : i + 1 + j = i + (j + 1) := by omega
        rw [← e]
        simp [ents, Instr.findAsking, Sem.run_bind, equal_pair, Result.andThen, hxy, h2]
      · refine .inr ⟨fun m hm => ?_, ?_⟩
        · rcases List.mem_cons.1 hm with rfl | hm
          · exact fun e => hxy e.symm
          · exact h1 m hm
        · simp [ents, Instr.findAsking, Sem.run_bind, equal_pair, Result.andThen, hxy, h2]
theorem findKey_pair (x : Int × Int) (w : World) (ms : List ((Int × Int) × Int)) :
    (∃ j v, ms[j]? = some (x, v) ∧ (Instr.findKey 26 (pv x) (ents 0 ms)).run Try.prog w = .ok (some (j, .int .i64 v)) w) ∨
    ((∀ m ∈ ms, m.1 ≠ x) ∧ (Instr.findKey 26 (pv x) (ents 0 ms)).run Try.prog w = .ok none w) := by
  have hq : (match Try.prog.underlying 26 with | some (.struct _) => true | _ => false) = true := by kernel_rfl
  obtain ⟨fs, hu⟩ : ∃ fs, Try.prog.underlying 26 = some (.struct fs) := by
    split at hq
    · rename_i fs hu
      exact ⟨fs, hu⟩
    · cases hq
  have e : (Instr.findKey 26 (pv x) (ents 0 ms)).run Try.prog w = (Instr.findAsking 26 (pv x) (ents 0 ms) 0).run Try.prog w := by
    cases ms with
    | nil => simp [Instr.findKey, Sem.run_bind, run_underlying hu, Result.andThen, ents, Instr.findNow, Instr.findAsking]
    | cons m ms =>
      obtain ⟨y, v⟩ := m
      simp [Instr.findKey, Sem.run_bind, run_underlying hu, Result.andThen, ents, Instr.findNow, Instr.sameNow]
  rw [e]
  rcases find_pair x w ms 0 0 with ⟨j, v, h1, h2⟩ | h
  · rw [Nat.zero_add] at h2
    exact .inl ⟨j, v, h1, h2⟩
  · exact .inr h

/-- block b is a map that holds these pairs' numbers, in the order in which they came -/
def PMap (w : World) (b : Nat) (ms : List ((Int × Int) × Int)) : Prop := ∃ es, w.heap[b]? = some (.map es ms.length) ∧ es.toList = ents 0 ms

section
variable {w w' : World} {b : Nat} {ms : List ((Int × Int) × Int)} {x : Int × Int}
theorem PMap.lt (h : PMap w b ms) : b < w.heap.size := by
  obtain ⟨es, hb, _⟩ := h
  exact (Array.getElem?_eq_some_iff.1 hb).1
theorem PMap.same (h : PMap w b ms) (hb : w'.heap[b]? = w.heap[b]?) : PMap w' b ms := by
  obtain ⟨es, h1, h2⟩ := h
  exact ⟨es, hb.trans h1, h2⟩
theorem PMap.ext (h : PMap w b ms) (hE : Ext w w') : PMap w' b ms := h.same (hE.block b h.lt)
theorem PMap.alloc (h : PMap w b ms) (o : Obj) : PMap (w.alloc o) b ms := h.ext ((Below.refl _ _).alloc (Nat.le_refl _) _)
theorem PMap.drew (h : PMap w b ms) : PMap w.drew b ms := h
theorem pmap_new (w : World) : PMap (w.alloc (.map #[] 0)) w.heap.size [] := ⟨#[], heap_alloc_new w _, rfl⟩
theorem mapTy : Try.prog.underlying 29 = some (.map 26 3) := by kernel_rfl
theorem zero_int (w : World) : (zeroValue 3).run Try.prog w = .ok (.int .i64 0) w := by kernel_rfl
theorem PMap.look_new (h : PMap w b ms) (hx : ∀ m ∈ ms, m.1 ≠ x) : (Instr.lookup 29 (.map (some b)) (pv x) false).run Try.prog w = .ok (.int .i64 0) w := by
  obtain ⟨es, hb, he⟩ := h
  rcases findKey_pair x w ms with ⟨j, v, h1, _⟩ | ⟨_, h2⟩
  · exact absurd rfl (hx _ (List.mem_of_getElem? h1))
  · rw [← he] at h2
    simp [Instr.lookup, Sem.run_bind, run_underlying mapTy, MapKept.run_getObj_map hb, check_pair, h2, zero_int, Result.andThen]
theorem at_one (hd : (ms.map (·.1)).Nodup) {i j : Nat} {v u : Int} (hi : ms[i]? = some (x, v)) (hj : ms[j]? = some (x, u)) : i = j ∧ v = u := by
  have h1 : (ms.map (·.1))[i]? = some x := by simp [hi]
  have h2 : (ms.map (·.1))[j]? = some x := by simp [hj]
  obtain ⟨hi', e1⟩ := List.getElem?_eq_some_iff.1 h1
  obtain ⟨hj', e2⟩ := List.getElem?_eq_some_iff.1 h2
  have : i = j := by
    rcases Nat.lt_trichotomy i j with hl | hl | hl
    · exact absurd (e1.trans e2.symm) (List.pairwise_iff_getElem.1 hd i j hi' hj' hl)
    · exact hl
    · exact absurd (e2.trans e1.symm) (List.pairwise_iff_getElem.1 hd j i hj' hi' hl)
  subst this
  rw [hi] at hj
  cases hj
  exact ⟨rfl, rfl⟩
theorem PMap.look_at (h : PMap w b ms) (hd : (ms.map (·.1)).Nodup) {i : Nat} {v : Int} (hi : ms[i]? = some (x, v)) : (Instr.lookup 29 (.map (some b)) (pv x) false).run Try.prog w = .ok (.int .i64 v) w := by
  obtain ⟨es, hb, he⟩ := h
  rcases findKey_pair x w ms with ⟨j, u, h1, h2⟩ | ⟨h1, _⟩
  · obtain ⟨rfl, rfl⟩ := at_one hd hi h1
    rw [← he] at h2
    simp [Instr.lookup, Sem.run_bind, run_underlying mapTy, MapKept.run_getObj_map hb, check_pair, h2, Result.andThen]
  · exact absurd rfl (h1 _ (List.mem_of_getElem? hi))
/-- the place is made -/
theorem PMap.entry_new (h : PMap w b ms) (hx : ∀ m ∈ ms, m.1 ≠ x) :
    ∃ w', (Instr.mapEntry 29 (.map (some b)) (pv x)).run Try.prog w = .ok (.tuple #[.int .i64 0, .int .i64 ms.length]) w' ∧ PMap w' b (ms ++ [(x, 0)]) ∧ w.grownBy w' (some b) := by
  obtain ⟨es, hb, he⟩ := h
  rcases findKey_pair x w ms with ⟨j, v, h1, _⟩ | ⟨_, h2⟩
  · exact absurd rfl (hx _ (List.mem_of_getElem? h1))
  · rw [← he] at h2
    refine ⟨setBlock w b (.map (es.push { key := pv x, val := .int .i64 0, born := ms.length }) (ms.length + 1)), ?_, ⟨es.push { key := pv x, val := .int .i64 0, born := ms.length }, ?_, ?_⟩, ⟨rfl, rfl, rfl, by simp [setBlock], fun i _ hi => heap_setBlock_other hb _ (fun e => hi (by rw [e]))⟩⟩
    · simp [Instr.mapEntry, Sem.run_bind, run_underlying mapTy, MapKept.run_getObj_map hb, check_pair, h2, zero_int, MapKept.run_setObj_map _ hb, Result.andThen, goInt, setBlock]
    · rw [heap_setBlock_same hb]
      simp
    · rw [Array.toList_push, he, ents_snoc, Nat.zero_add]
theorem PMap.entry_at (h : PMap w b ms) (hd : (ms.map (·.1)).Nodup) {i : Nat} {v : Int} (hi : ms[i]? = some (x, v)) :
    ∃ w', (Instr.mapEntry 29 (.map (some b)) (pv x)).run Try.prog w = .ok (.tuple #[.int .i64 v, .int .i64 i]) w' ∧ PMap w' b ms ∧ w.grownBy w' (some b) := by
  obtain ⟨es, hb, he⟩ := h
  rcases findKey_pair x w ms with ⟨j, u, h1, h2⟩ | ⟨h1, _⟩
  · obtain ⟨rfl, rfl⟩ := at_one hd hi h1
    have hei : es[i]? = some { key := pv x, val := .int .i64 v, born := i } := by
      rw [← Array.getElem?_toList, he, ents_get, hi]
      simp
    have hkey : (((es[i]?).map (·.key)).getD (pv x)) = pv x := by simp [hei]
    have hmod : (es.modify i fun e => { e with key := pv x }) = es := by
      apply Array.ext_getElem?
      intro k
      rw [Array.getElem?_modify]
      split
      · rename_i hk
        subst hk
        simp [hei]
      · rfl
    rw [← he] at h2
    refine ⟨setBlock w b (.map es ms.length), ?_, ⟨es, heap_setBlock_same hb _, he⟩, ⟨rfl, rfl, rfl, by simp [setBlock], fun i _ hi => heap_setBlock_other hb _ (fun e => hi (by rw [e]))⟩⟩
    simp only [Instr.mapEntry, Sem.run_bind, run_underlying mapTy, MapKept.run_getObj_map hb, check_pair, h2, Result.andThen, hkey, stays_pair, MapKept.run_setObj_map _ hb, hmod, Sem.run_pure]
    simp [hei, goInt, setBlock]
  · exact absurd rfl (h1 _ (List.mem_of_getElem? hi))
theorem find_born_ents (j : Nat) : ∀ (ms : List ((Int × Int) × Int)) (i k : Nat), k < ms.length → (ents i ms).findIdx? (fun e => (e.born : Int) == ((i + k : Nat) : Int)) = some k
  | [], _, _, h => by simp at h
  | (x, v) :: r, i, 0, _ => by simp [ents, List.findIdx?_cons]
  | (x, v) :: r, i, k + 1, h => by
    have ih := find_born_ents j r (i + 1) k (by simpa using h)
    have e : i + 1 + k = i + (k + 1) := by omega
    rw [e] at ih
    have hne : ((i : Int) == ((i + (k + 1) : Nat) : Int)) = false := by
      rw [beq_eq_false_iff_ne]
      omega
    simp only [ents, List.findIdx?_cons, hne, Bool.false_eq_true, if_false, ih, Option.map_some]
theorem PMap.store_at (h : PMap w b ms) {i : Nat} {v u : Int} (hi : ms[i]? = some (x, v)) :
    ∃ w', (Instr.entryStore 29 (.map (some b)) (.int .i64 i) (.int .i64 u)).run Try.prog w = .ok () w' ∧ PMap w' b (ms.set i (x, u)) ∧ w.grownBy w' (some b) := by
  obtain ⟨es, hb, he⟩ := h
  have hil := (List.getElem?_eq_some_iff.1 hi).1
  have hf : es.findIdx? (fun e => (e.born : Int) == (i : Int)) = some i := by
    have := find_born_ents 0 ms 0 i hil
    rw [Nat.zero_add, ← he] at this
    rw [← this]
    cases es
    simp
  refine ⟨setBlock w b (.map (es.modify i fun e => { e with val := .int .i64 u }) ms.length), ?_, ⟨es.modify i fun e => { e with val := .int .i64 u }, ?_, ?_⟩, ⟨rfl, rfl, rfl, by simp [setBlock], fun i _ hi => heap_setBlock_other hb _ (fun e => hi (by rw [e]))⟩⟩
  · simp [Instr.entryStore, Sem.run_bind, MapKept.run_getObj_map hb, asInt, asIntOf, hf, MapKept.run_setObj_map _ hb, Result.andThen, setBlock]
  · rw [heap_setBlock_same hb, List.length_set]
  · rw [Array.toList_modify, he, ents_set 0 ms i x v u hi]
end
section
variable {w w' : World} {o : Oper} {a : Act} {K : Act → World → Prop} {Q : Exit → Act → World → Prop} {b : Nat} {x : Int × Int} {m y s z : Operand} {v u : Value} {k c : Int}
theorem wp_lookP (hop : o.op = .lookup 29 m y false) (hm : a.eval m = .map (some b)) (hy : a.eval y = pv x)
    (hrun : (Instr.lookup 29 (.map (some b)) (pv x) false).run Try.prog w = .ok v w) (hK : K (a.put o.dst v) w) : o.wp Try.prog a w K Q := by
  unfold Oper.wp
  simp only [execOp, hop, hm, hy, Sem.run_bind, Sem.run_pure, hrun, Result.andThen_ok]
  exact hK
theorem wp_entryP (hop : o.op = .mapEntry 29 m y) (hm : a.eval m = .map (some b)) (hy : a.eval y = pv x)
    (hrun : (Instr.mapEntry 29 (.map (some b)) (pv x)).run Try.prog w = .ok v w') (hK : K (a.put o.dst v) w') : o.wp Try.prog a w K Q := by
  unfold Oper.wp
  simp only [execOp, hop, hm, hy, Sem.run_bind, Sem.run_pure, hrun, Result.andThen_ok]
  exact hK
theorem wp_storeP (hop : o.op = .entryStore 29 m s z) (hm : a.eval m = .map (some b)) (hs : a.eval s = .int .i64 k) (hz : a.eval z = .int .i64 c)
    (hrun : (Instr.entryStore 29 (.map (some b)) (.int .i64 k) (.int .i64 c)).run Try.prog w = .ok () w') (hK : K (a.put o.dst (.tuple #[])) w') : o.wp Try.prog a w K Q := by
  unfold Oper.wp
  simp only [execOp, hop, hm, hs, hz, Sem.run_bind, Sem.run_pure, hrun, Result.andThen_ok]
  exact hK
end
theorem grown_drew (w : World) (row : Option Nat) : w.grownBy w.drew row := ⟨rfl, rfl, rfl, Nat.le_refl _, fun _ _ _ => rfl⟩
theorem grown_trans {w w1 w2 : World} {row : Option Nat} (h : w.grownBy w1 row) (h' : w1.grownBy w2 row) : w.grownBy w2 row :=
  ⟨h'.os.trans h.os, h'.tape.trans h.tape, h'.output.trans h.output, Nat.le_trans h.size h'.size, fun k hk hr => (h'.block k (Nat.lt_of_lt_of_le hk h.size) hr).trans (h.block k hk hr)⟩
theorem gcell {w W : World} {mb : Nat} (h : w.grownBy W (some mb)) : ∀ b o, b < w.heap.size → b ≠ mb → W.cell? ⟨b, o, none⟩ = w.cell? ⟨b, o, none⟩ :=
  fun b o hb hne => cell_of_heap (h.block b hb (fun e => hne (by injection e))) o
end Go.Proofs.Ytecfceabioajkaa
