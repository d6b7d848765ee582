/- A map of texts of the call's own: a text that is not yet a key is asked, and put. -/
import Derived.Test.YtecfceabioajkaaOwn
import Derived.Test.YtecfceabioajkaaChecked
import Derived.MapKept
import Derived.ChangeMaps5
import Derived.Maps.OwnOps
namespace Go.Proofs.Ytecfceabioajkaa
open Go.RowKit Go.ChangeMaps Go.MapKept

@[go_sem high] theorem makeMap_plain {P : Program} (t : TypeId) (w : World) : (Instr.makeMap t none).run P w = .ok (.map (some w.heap.size)) (w.alloc (.map #[] 0)) := rfl

/-- block b is a map whose keys are these texts -/
def Keys (w : World) (b : Nat) (ks : List ByteArray) : Prop := ∃ es clock, w.heap[b]? = some (.map es clock) ∧ es.toList.map (·.key) = ks.map Value.string

theorem cell_of_heap {w w' : World} {b : Nat} (h : w'.heap[b]? = w.heap[b]?) (o : Nat) : w'.cell? ⟨b, o, none⟩ = w.cell? ⟨b, o, none⟩ := by
  unfold World.cell?
  simp only [h]
theorem toListS_inj {a b : ByteArray} (h : a.data.toList = b.data.toList) : a = b := ByteArray.ext (Array.toList_inj.1 h)
theorem findNow_none (x : ByteArray) : ∀ (l : List MapEntry) (ks : List ByteArray) (i : Nat), l.map (·.key) = ks.map Value.string → x ∉ ks → Instr.findNow .string (.string x) l i = some none
  | [], _, _, _, _ => rfl
  | e :: l, [], _, h, _ => by simp at h
  | e :: l, k :: ks, i, h, hx => by
    simp only [List.map_cons, List.cons.injEq] at h
    have hne : (x == k) = false := by
      cases hb : (x == k)
      · rfl
      · have hd : (x.data == k.data) = true := by cases x; cases k; exact hb
        have : x = k := ByteArray.ext (beq_iff_eq.1 hd)
        exact absurd (by simp [this]) hx
    simp only [Instr.findNow, h.1, Instr.sameNow, hne]
    exact findNow_none x l ks (i + 1) h.2 (fun hm => hx (List.mem_cons_of_mem _ hm))

section
variable {P : Program} {w w' : World} {b : Nat} {ks : List ByteArray} {x : ByteArray} {t k e : TypeId}
theorem Keys.lt (h : Keys w b ks) : b < w.heap.size := by
  obtain ⟨es, clock, hb, _⟩ := h
  exact (Array.getElem?_eq_some_iff.1 hb).1
theorem Keys.ext (h : Keys w b ks) (hE : Ext w w') : Keys w' b ks := by
  have := h.lt
  obtain ⟨es, clock, hb, hk⟩ := h
  exact ⟨es, clock, (hE.block b this).trans hb, hk⟩
theorem Keys.alloc (h : Keys w b ks) (o : Obj) : Keys (w.alloc o) b ks := h.ext ((Below.refl _ _).alloc (Nat.le_refl _) _)
theorem Keys.drew (h : Keys w b ks) : Keys w.drew b ks := h
theorem keys_new (w : World) : Keys (w.alloc (.map #[] 0)) w.heap.size [] := ⟨#[], 0, heap_alloc_new w _, rfl⟩
theorem Keys.look (h : Keys w b ks) (ht : P.underlying t = some (.map k e)) (hk : P.underlying k = some .string) (hz : (zeroValue e).run P w = .ok (.bool false) w) (hx : x ∉ ks) :
    (Instr.lookup t (.map (some b)) (.string x) false).run P w = .ok (.bool false) w := by
  obtain ⟨es, clock, hb, hke⟩ := h
  have hf := findNow_none x es.toList ks 0 hke hx
  have hc : (Instr.checkKey es.isEmpty 10000 k (.string x)).run P w = .ok () w := by
    unfold Instr.checkKey
    simp [Sem.run_bind, run_underlying hk, Result.andThen]
  have hfk : (Instr.findKey k (.string x) es.toList).run P w = .ok none w := by
    simp [Instr.findKey, Sem.run_bind, run_underlying hk, Result.andThen, hf]
  simp [Instr.lookup, Sem.run_bind, run_underlying ht, MapKept.run_getObj_map hb, hc, hfk, hz, Result.andThen]
theorem Keys.put (h : Keys w b ks) (ht : P.underlying t = some (.map k e)) (hk : P.underlying k = some .string) (v : Value) (hx : x ∉ ks) {B : Nat} {w0 : World} (hB : Below B w0 w) (hBb : B ≤ b) :
    ∃ w', (Instr.mapUpdate t (.map (some b)) (.string x) v).run P w = .ok () w' ∧ Keys w' b (ks ++ [x]) ∧ Below B w0 w' ∧ w'.heap.size = w.heap.size ∧ ∀ i, i ≠ b → w'.heap[i]? = w.heap[i]? := by
  obtain ⟨es, clock, hb, hke⟩ := h
  have hf := findNow_none x es.toList ks 0 hke hx
  have hc : (Instr.checkKey false 10000 k (.string x)).run P w = .ok () w := by
    unfold Instr.checkKey
    simp [Sem.run_bind, run_underlying hk, Result.andThen]
  have hfk : (Instr.findKey k (.string x) es.toList).run P w = .ok none w := by
    simp [Instr.findKey, Sem.run_bind, run_underlying hk, Result.andThen, hf]
  refine ⟨setBlock w b (.map (es.push { key := .string x, val := v, born := clock }) (clock + 1)), ?_, ⟨_, _, heap_setBlock_same hb _, ?_⟩, ?_, by simp [setBlock], fun i hi => heap_setBlock_other hb _ hi⟩
  · simp [Instr.mapUpdate, Sem.run_bind, run_underlying ht, MapKept.run_getObj_map hb, hc, hfk, MapKept.run_setObj_map _ hb, Result.andThen, setBlock]
  · simp [hke]
  · exact hB.trans ⟨rfl, rfl, rfl, by simp [setBlock], fun k hk => heap_setBlock_other hb _ (by omega)⟩
end
section
variable {P : Program} (w : World) {ops : Array Oper} {rest : List Oper} {o : Oper} {a : Act} {Q : Exit → Act → World → Prop} {b : Nat} {ks : List ByteArray} {x : ByteArray} {t k e : TypeId}
theorem wpList_lookS (hg : o.guard = none) (m y : Operand) (hop : o.op = Op.lookup t m y false) (ht : P.underlying t = some (.map k e)) (hk : P.underlying k = some .string) (hz : (zeroValue e).run P w = .ok (.bool false) w)
    (hm : a.eval m = .map (some b)) (hy : a.eval y = .string x) (h : Keys w b ks) (hx : x ∉ ks) (hK : wpList P ops Q rest (a.put o.dst (.bool false)) w) : wpList P ops Q (o :: rest) a w := by
  refine wpList_plain hg fun K' hK' => ?_
  unfold Oper.wp
  simp [execOp, hop, hm, hy, h.look ht hk hz hx, Result.andThen]
  exact hK' _ _ hK
theorem wpList_putS (hg : o.guard = none) (m y v : Operand) (hop : o.op = Op.mapUpdate t m y v) (ht : P.underlying t = some (.map k e)) (hk : P.underlying k = some .string)
    (hm : a.eval m = .map (some b)) (hy : a.eval y = .string x) (h : Keys w b ks) (hx : x ∉ ks) {B : Nat} {w0 : World} (hB : Below B w0 w) (hBb : B ≤ b)
    (hK : ∀ w', Keys w' b (ks ++ [x]) → Below B w0 w' → w'.heap.size = w.heap.size → (∀ i, i ≠ b → w'.heap[i]? = w.heap[i]?) → wpList P ops Q rest (a.put o.dst (.tuple #[])) w') : wpList P ops Q (o :: rest) a w := by
  refine wpList_plain hg fun K' hK' => ?_
  obtain ⟨w', hrun, h1, h2, h3, h4⟩ := h.put ht hk (a.eval v) hx hB hBb
  unfold Oper.wp
  simp [execOp, hop, hm, hy, hrun, Result.andThen]
  exact hK' _ _ (hK w' h1 h2 h3 h4)
end
end Go.Proofs.Ytecfceabioajkaa
