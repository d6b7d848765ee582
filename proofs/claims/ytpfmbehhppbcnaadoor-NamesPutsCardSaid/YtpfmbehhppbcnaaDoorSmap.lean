/- A map of texts of the call's own: what it holds; asked, and put, whether or not the text is a key. -/
import Derived.Test.YtpfmbehhppbcnaaDoorOwn
import Derived.Test.YtpfmbehhppbcnaaDoorChecked
import Derived.MapKept
import Derived.ChangeMaps5
import Derived.Maps.OwnOps
import Derived.RangeFuncSeq
namespace Go.Proofs.YtpfmbehhppbcnaaDoor
open Go.RowKit Go.ChangeMaps Go.MapKept

@[go_sem high] theorem makeMap_plain {P : Program} (t : TypeId) (w : World) : (Instr.makeMap t none).run P w = .ok (.map (some w.heap.size)) (w.alloc (.map #[] 0)) := rfl

/-- block b is a map that holds these -/
def SMap (w : World) (b : Nat) (ms : List (ByteArray × Value)) : Prop := ∃ es clock, w.heap[b]? = some (.map es clock) ∧ es.toList.map (fun e => (e.key, e.val)) = ms.map fun m => (Value.string m.1, m.2)
instance decTexts : DecidableEq ByteArray := fun a b => decidable_of_iff (a.data = b.data) ⟨fun h => ByteArray.ext h, fun h => by rw [h]⟩
theorem beq_no {x k : ByteArray} (h : x ≠ k) : (x == k) = false := by
  cases hb : (x == k)
  · rfl
  · have hd : (x.data == k.data) = true := by cases x; cases k; exact hb
    exact absurd (ByteArray.ext (beq_iff_eq.1 hd)) h
theorem beq_yes (x : ByteArray) : (x == x) = true := by
  have hd : (x.data == x.data) = true := by simp
  cases x; exact hd
instance lawTexts : LawfulBEq ByteArray where
  eq_of_beq := fun {a b} h => Decidable.byContradiction fun hn => by rw [beq_no hn] at h; cases h
  rfl := beq_yes _
theorem findS_none (x : ByteArray) : ∀ (l : List MapEntry) (ms : List (ByteArray × Value)) (i : Nat), l.map (fun e => (e.key, e.val)) = ms.map (fun m => (Value.string m.1, m.2)) → x ∉ ms.map (·.1) → Instr.findNow .string (.string x) l i = some none
  | [], _, _, _, _ => rfl
  | e :: l, [], _, h, _ => by simp at h
  | e :: l, k :: ms, i, h, hx => by
    simp only [List.map_cons, List.cons.injEq, Prod.mk.injEq] at h
    have hne : (x == k.1) = false := beq_no fun e => hx (by simp [e])
    simp only [Instr.findNow, h.1.1, Instr.sameNow, hne]
    exact findS_none x l ms (i + 1) h.2 (fun hm => hx (by rw [List.map_cons]; exact List.mem_cons_of_mem _ hm))
theorem findS_at (x : ByteArray) (v : Value) : ∀ (l : List MapEntry) (ms : List (ByteArray × Value)) (i j : Nat), l.map (fun e => (e.key, e.val)) = ms.map (fun m => (Value.string m.1, m.2)) → (ms.map (·.1)).Nodup → ms[j]? = some (x, v) → Instr.findNow .string (.string x) l i = some (some (i + j, v))
  | [], [], _, _, _, _, hj => by simp at hj
  | [], k :: ms, _, _, h, _, _ => by simp at h
  | e :: l, [], _, _, h, _, _ => by simp at h
  | e :: l, k :: ms, i, 0, h, _, hj => by
    simp only [List.map_cons, List.cons.injEq, Prod.mk.injEq] at h
    simp at hj
    subst hj
    simp only [Instr.findNow, h.1.1, Instr.sameNow, beq_yes, h.1.2]
    rfl
  | e :: l, k :: ms, i, j + 1, h, hn, hj => by
    simp only [List.map_cons, List.cons.injEq, Prod.mk.injEq] at h
    rw [List.map_cons, List.nodup_cons] at hn
    have hj' : ms[j]? = some (x, v) := by simpa using hj
    have hne : (x == k.1) = false := beq_no fun e => hn.1 (by rw [← e]; exact List.mem_map.2 ⟨_, List.mem_of_getElem? hj', rfl⟩)
    simp only [Instr.findNow, h.1.1, Instr.sameNow, hne]
    rw [findS_at x v l ms (i + 1) j h.2 hn.2 hj', show i + 1 + j = i + (j + 1) by omega]
section
variable {P : Program} {w w' : World} {b : Nat} {ms : List (ByteArray × Value)} {x : ByteArray} {t k e : TypeId} {z v : Value}
theorem SMap.lt (h : SMap w b ms) : b < w.heap.size := by
  obtain ⟨es, clock, hb, _⟩ := h
  exact (Array.getElem?_eq_some_iff.1 hb).1
theorem SMap.same (h : SMap w b ms) (hb : w'.heap[b]? = w.heap[b]?) : SMap w' b ms := by
  obtain ⟨es, clock, h1, hk⟩ := h
  exact ⟨es, clock, hb.trans h1, hk⟩
theorem SMap.ext (h : SMap w b ms) (hE : Ext w w') : SMap w' b ms := h.same (hE.block b h.lt)
theorem SMap.walks (h : SMap w b ms) (hk : KeepsWalks w w') : SMap w' b ms := by
  obtain ⟨es, clock, h1, h2⟩ := h
  exact ⟨es, clock, hk.same b _ h1 rfl, h2⟩
theorem smap_new (w : World) : SMap (w.alloc (.map #[] 0)) w.heap.size [] := ⟨#[], 0, heap_alloc_new w _, rfl⟩
theorem SMap.size (h : SMap w b ms) : ∃ es clock, w.heap[b]? = some (.map es clock) ∧ es.size = ms.length := by
  obtain ⟨es, clock, h1, h2⟩ := h
  refine ⟨es, clock, h1, ?_⟩
  have := congrArg List.length h2
  simpa using this
theorem check_str (c : Bool) (hk : P.underlying k = some .string) : (Instr.checkKey c 10000 k (.string x)).run P w = .ok () w := by
  unfold Instr.checkKey
  simp [Sem.run_bind, run_underlying hk, Result.andThen]
theorem stays_str : (Instr.keyThatStays (.string x) (.string x)).run P w = .ok (.string x) w := by
  have h : Instr.sameBits 10000 (.string x) (.string x) = true := by simp [Instr.sameBits, beq_yes]
  simp [Instr.keyThatStays, h]
theorem SMap.look_new (h : SMap w b ms) (ht : P.underlying t = some (.map k e)) (hk : P.underlying k = some .string) (hz : (zeroValue e).run P w = .ok z w) (hx : x ∉ ms.map (·.1)) (ok : Bool) :
    (Instr.lookup t (.map (some b)) (.string x) ok).run P w = .ok (if ok then .tuple #[z, .bool false] else z) w := by
  obtain ⟨es, clock, hb, hke⟩ := h
  have hf := findS_none x es.toList ms 0 hke hx
  have hfk : (Instr.findKey k (.string x) es.toList).run P w = .ok none w := by simp [Instr.findKey, Sem.run_bind, run_underlying hk, Result.andThen, hf]
  simp [Instr.lookup, Sem.run_bind, run_underlying ht, MapKept.run_getObj_map hb, check_str _ hk, hfk, hz, Result.andThen]
theorem SMap.look_at (h : SMap w b ms) (ht : P.underlying t = some (.map k e)) (hk : P.underlying k = some .string) (hn : (ms.map (·.1)).Nodup) {j : Nat} (hj : ms[j]? = some (x, v)) (ok : Bool) :
    (Instr.lookup t (.map (some b)) (.string x) ok).run P w = .ok (if ok then .tuple #[v, .bool true] else v) w := by
  obtain ⟨es, clock, hb, hke⟩ := h
  have hf := findS_at x v es.toList ms 0 j hke hn hj
  have hfk : (Instr.findKey k (.string x) es.toList).run P w = .ok (some (0 + j, v)) w := by simp [Instr.findKey, Sem.run_bind, run_underlying hk, Result.andThen, hf]
  simp [Instr.lookup, Sem.run_bind, run_underlying ht, MapKept.run_getObj_map hb, check_str _ hk, hfk, Result.andThen]
theorem SMap.put_new (h : SMap w b ms) (ht : P.underlying t = some (.map k e)) (hk : P.underlying k = some .string) (v : Value) (hx : x ∉ ms.map (·.1)) :
    ∃ w', (Instr.mapUpdate t (.map (some b)) (.string x) v).run P w = .ok () w' ∧ SMap w' b (ms ++ [(x, v)]) ∧ w.grownBy w' (some b) ∧ w'.heap.size = w.heap.size := by
  obtain ⟨es, clock, hb, hke⟩ := h
  have hf := findS_none x es.toList ms 0 hke hx
  have hfk : (Instr.findKey k (.string x) es.toList).run P w = .ok none w := by simp [Instr.findKey, Sem.run_bind, run_underlying hk, Result.andThen, hf]
  refine ⟨setBlock w b (.map (es.push { key := .string x, val := v, born := clock }) (clock + 1)), ?_, ⟨_, _, heap_setBlock_same hb _, ?_⟩, ⟨rfl, rfl, rfl, by simp [setBlock], fun i _ hi => heap_setBlock_other hb _ (fun e => hi (by rw [e]))⟩, by simp [setBlock]⟩
  · simp [Instr.mapUpdate, Sem.run_bind, run_underlying ht, MapKept.run_getObj_map hb, check_str _ hk, hfk, MapKept.run_setObj_map _ hb, Result.andThen, setBlock]
  · simp [hke]
theorem SMap.put_at (h : SMap w b ms) (ht : P.underlying t = some (.map k e)) (hk : P.underlying k = some .string) (hn : (ms.map (·.1)).Nodup) {j : Nat} (hj : ms[j]? = some (x, v)) :
    ∃ w', (Instr.mapUpdate t (.map (some b)) (.string x) v).run P w = .ok () w' ∧ SMap w' b ms ∧ w.grownBy w' (some b) ∧ w'.heap.size = w.heap.size := by
  obtain ⟨es, clock, hb, hke⟩ := h
  have hf := findS_at x v es.toList ms 0 j hke hn hj
  have hfk : (Instr.findKey k (.string x) es.toList).run P w = .ok (some (0 + j, v)) w := by simp [Instr.findKey, Sem.run_bind, run_underlying hk, Result.andThen, hf]
  have hlen : es.toList.length = ms.length := by have := congrArg List.length hke; simpa using this
  have hjl := (List.getElem?_eq_some_iff.1 hj).1
  obtain ⟨e0, he0⟩ : ∃ e0, es.toList[j]? = some e0 := ⟨_, List.getElem?_eq_getElem (by omega)⟩
  have hee : (e0.key, e0.val) = (Value.string x, v) := by
    have h2 := congrArg (fun l => l[j]?) hke
    simp only [List.getElem?_map, he0, hj, Option.map_some, Option.some.injEq] at h2
    exact h2
  injection hee with hek hev
  have he1 : es[j]? = some e0 := by rw [← Array.getElem?_toList]; exact he0
  have hst : (Instr.keyThatStays (((es[0 + j]?).map (·.key)).getD (.string x)) (.string x)).run P w = .ok (.string x) w := by
    rw [Nat.zero_add, he1, Option.map_some, Option.getD_some, hek]
    exact stays_str
  have hmod : es.modify (0 + j) (fun e => { e with key := .string x, val := v }) = es := by
    rw [Nat.zero_add]
    apply Array.toList_inj.1
    rw [Array.toList_modify]
    apply List.ext_getElem?
    intro i
    rw [List.getElem?_modify]
    by_cases hij : j = i
    · subst hij
      rw [he0]
      simp [← hek, ← hev]
    · cases es.toList[i]? <;> simp [hij]
  rw [Nat.zero_add] at hst hmod hfk
  refine ⟨setBlock w b (.map es clock), ?_, ⟨_, _, heap_setBlock_same hb _, hke⟩, ⟨rfl, rfl, rfl, by simp [setBlock], fun i _ hi => heap_setBlock_other hb _ (fun e => hi (by rw [e]))⟩, by simp [setBlock]⟩
  simp [Instr.mapUpdate, Sem.run_bind, run_underlying ht, MapKept.run_getObj_map hb, check_str _ hk, hfk, hst, hmod, MapKept.run_setObj_map _ hb, Result.andThen, setBlock]
end
section
variable {P : Program} {w : World} {ops : Array Oper} {rest : List Oper} {o : Oper} {a : Act} {Q : Exit → Act → World → Prop} {b : Nat} {x : ByteArray} {t : TypeId} {u : Value} {ok : Bool} {w' : World}
theorem wpList_look (hg : o.guard = none) (m y : Operand) (hop : o.op = Op.lookup t m y ok) (hm : a.eval m = .map (some b)) (hy : a.eval y = .string x)
    (hrun : (Instr.lookup t (.map (some b)) (.string x) ok).run P w = .ok u w) (hK : wpList P ops Q rest (a.put o.dst u) w) : wpList P ops Q (o :: rest) a w := by
  refine wpList_plain hg fun K' hK' => ?_
  unfold Oper.wp
  simp only [execOp, hop, hm, hy, Sem.run_bind, Sem.run_pure, hrun, Result.andThen_ok]
  exact hK' _ _ hK
theorem wpList_put (hg : o.guard = none) (m y v : Operand) (hop : o.op = Op.mapUpdate t m y v) (hm : a.eval m = .map (some b)) (hy : a.eval y = .string x)
    (hrun : (Instr.mapUpdate t (.map (some b)) (.string x) (a.eval v)).run P w = .ok () w') (hK : wpList P ops Q rest (a.put o.dst (.tuple #[])) w') : wpList P ops Q (o :: rest) a w := by
  refine wpList_plain hg fun K' hK' => ?_
  unfold Oper.wp
  simp only [execOp, hop, hm, hy, Sem.run_bind, Sem.run_pure, hrun, Result.andThen_ok]
  exact hK' _ _ hK
end
end Go.Proofs.YtpfmbehhppbcnaaDoor
