/- A map of numbers of the call's own; slices.IsSorted of numbers. -/
import Derived.Test.YtepgpiolhiidiaaTopLf
import Derived.MapKept
import Derived.ChangeMaps5
import Derived.Maps.OwnOps
namespace Go.Proofs.Ytepgpiolhiidiaa
open Go.RowKit Go.ChangeMaps Go.MapKept
attribute [local go_sem] Oper.semAt_some

@[go_sem high] theorem makeMap_plain {P : Program} (t : TypeId) (w : World) : (Instr.makeMap t none).run P w = .ok (.map (some w.heap.size)) (w.alloc (.map #[] 0)) := rfl
/-- block b is a map whose keys are these numbers, each true -/
def IKeys (w : World) (b : Nat) (ks : List Int) : Prop := ∃ es clock, w.heap[b]? = some (.map es clock) ∧ es.toList.map (fun e => (e.key, e.val)) = ks.map fun k => (Value.int .i64 k, Value.bool true)
theorem findI_none (x : Int) : ∀ (l : List MapEntry) (ks : List Int) (i : Nat), l.map (fun e => (e.key, e.val)) = ks.map (fun k => (Value.int .i64 k, Value.bool true)) → x ∉ ks → Instr.findNow (.int .i64) (.int .i64 x) l i = some none
  | [], _, _, _, _ => rfl
  | e :: l, [], _, h, _ => by simp at h
  | e :: l, k :: ks, i, h, hx => by
    simp only [List.map_cons, List.cons.injEq, Prod.mk.injEq] at h
    have hne : (x == k) = false := by
      rw [beq_eq_false_iff_ne]
      exact fun e => hx (by simp [e])
    simp only [Instr.findNow, h.1.1, Instr.sameNow, hne]
    exact findI_none x l ks (i + 1) h.2 (fun hm => hx (List.mem_cons_of_mem _ hm))
theorem findI_some (x : Int) : ∀ (l : List MapEntry) (ks : List Int) (i : Nat), l.map (fun e => (e.key, e.val)) = ks.map (fun k => (Value.int .i64 k, Value.bool true)) → x ∈ ks → ∃ j, Instr.findNow (.int .i64) (.int .i64 x) l i = some (some (j, .bool true))
  | [], [], _, _, hx => by cases hx
  | [], k :: ks, _, h, _ => by simp at h
  | e :: l, [], _, h, _ => by simp at h
  | e :: l, k :: ks, i, h, hx => by
    simp only [List.map_cons, List.cons.injEq, Prod.mk.injEq] at h
    by_cases hxk : x = k
    · subst hxk
      refine ⟨i, ?_⟩
      simp only [Instr.findNow, h.1.1, Instr.sameNow, beq_self_eq_true, h.1.2]
      try rfl
    · have hne : (x == k) = false := by rw [beq_eq_false_iff_ne]; exact hxk
      obtain ⟨j, hj⟩ := findI_some x l ks (i + 1) h.2 ((List.mem_cons.1 hx).resolve_left hxk)
      refine ⟨j, ?_⟩
      simp only [Instr.findNow, h.1.1, Instr.sameNow, hne]
      exact hj
section
variable {P : Program} {w w' : World} {b : Nat} {ks : List Int} {x : Int} {t k e : TypeId}
theorem IKeys.lt (h : IKeys w b ks) : b < w.heap.size := by
  obtain ⟨es, clock, hb, _⟩ := h
  exact (Array.getElem?_eq_some_iff.1 hb).1
theorem IKeys.ext (h : IKeys w b ks) (hE : Ext w w') : IKeys w' b ks := by
  have := h.lt
  obtain ⟨es, clock, hb, hk⟩ := h
  exact ⟨es, clock, (hE.block b this).trans hb, hk⟩
theorem ikeys_new (w : World) : IKeys (w.alloc (.map #[] 0)) w.heap.size [] := ⟨#[], 0, heap_alloc_new w _, rfl⟩
theorem check_int (c : Bool) (hk : P.underlying k = some (.int .i64)) : (Instr.checkKey c 10000 k (.int .i64 x)).run P w = .ok () w := by
  unfold Instr.checkKey
  simp [Sem.run_bind, run_underlying hk, Result.andThen]
theorem IKeys.look (h : IKeys w b ks) (ht : P.underlying t = some (.map k e)) (hk : P.underlying k = some (.int .i64)) (hz : (zeroValue e).run P w = .ok (.bool false) w) :
    (Instr.lookup t (.map (some b)) (.int .i64 x) false).run P w = .ok (.bool (decide (x ∈ ks))) w := by
  obtain ⟨es, clock, hb, hke⟩ := h
  by_cases hx : x ∈ ks
  · obtain ⟨j, hf⟩ := findI_some x es.toList ks 0 hke hx
    have hfk : (Instr.findKey k (.int .i64 x) es.toList).run P w = .ok (some (j, .bool true)) w := by
      simp [Instr.findKey, Sem.run_bind, run_underlying hk, Result.andThen, hf]
    simp [Instr.lookup, Sem.run_bind, run_underlying ht, MapKept.run_getObj_map hb, check_int _ hk, hfk, hz, Result.andThen, hx]
  · have hf := findI_none x es.toList ks 0 hke hx
    have hfk : (Instr.findKey k (.int .i64 x) es.toList).run P w = .ok none w := by
      simp [Instr.findKey, Sem.run_bind, run_underlying hk, Result.andThen, hf]
    simp [Instr.lookup, Sem.run_bind, run_underlying ht, MapKept.run_getObj_map hb, check_int _ hk, hfk, hz, Result.andThen, hx]
theorem IKeys.put (h : IKeys w b ks) (ht : P.underlying t = some (.map k e)) (hk : P.underlying k = some (.int .i64)) (hx : x ∉ ks) {B : Nat} {w0 : World} (hB : Below B w0 w) (hBb : B ≤ b) :
    ∃ w', (Instr.mapUpdate t (.map (some b)) (.int .i64 x) (.bool true)).run P w = .ok () w' ∧ IKeys w' b (ks ++ [x]) ∧ Below B w0 w' ∧ w'.heap.size = w.heap.size ∧ ∀ i, i ≠ b → w'.heap[i]? = w.heap[i]? := by
  obtain ⟨es, clock, hb, hke⟩ := h
  have hf := findI_none x es.toList ks 0 hke hx
  have hfk : (Instr.findKey k (.int .i64 x) es.toList).run P w = .ok none w := by
    simp [Instr.findKey, Sem.run_bind, run_underlying hk, Result.andThen, hf]
  refine ⟨setBlock w b (.map (es.push { key := .int .i64 x, val := .bool true, born := clock }) (clock + 1)), ?_, ⟨_, _, heap_setBlock_same hb _, ?_⟩, ?_, by simp [setBlock], fun i hi => heap_setBlock_other hb _ hi⟩
  · simp [Instr.mapUpdate, Sem.run_bind, run_underlying ht, MapKept.run_getObj_map hb, check_int _ hk, hfk, MapKept.run_setObj_map _ hb, Result.andThen, setBlock]
  · simp [hke]
  · exact hB.trans ⟨rfl, rfl, rfl, by simp [setBlock], fun k hk => heap_setBlock_other hb _ (by omega)⟩
end
section
variable {P : Program} (w : World) {ops : Array Oper} {rest : List Oper} {o : Oper} {a : Act} {Q : Exit → Act → World → Prop} {b : Nat} {ks : List Int} {x : Int} {t k e : TypeId}
theorem wpList_lookI (hg : o.guard = none) (m y : Operand) (hop : o.op = Op.lookup t m y false) (ht : P.underlying t = some (.map k e)) (hk : P.underlying k = some (.int .i64)) (hz : (zeroValue e).run P w = .ok (.bool false) w)
    (hm : a.eval m = .map (some b)) (hy : a.eval y = .int .i64 x) (h : IKeys w b ks) (hK : wpList P ops Q rest (a.put o.dst (.bool (decide (x ∈ ks)))) w) : wpList P ops Q (o :: rest) a w := by
  refine wpList_plain hg fun K' hK' => ?_
  unfold Oper.wp
  simp [execOp, hop, hm, hy, h.look ht hk hz, Result.andThen]
  exact hK' _ _ hK
theorem wpList_putI (hg : o.guard = none) (m y v : Operand) (hop : o.op = Op.mapUpdate t m y v) (ht : P.underlying t = some (.map k e)) (hk : P.underlying k = some (.int .i64))
    (hm : a.eval m = .map (some b)) (hy : a.eval y = .int .i64 x) (hv : a.eval v = .bool true) (h : IKeys w b ks) (hx : x ∉ ks) {B : Nat} {w0 : World} (hB : Below B w0 w) (hBb : B ≤ b)
    (hK : ∀ w', IKeys w' b (ks ++ [x]) → Below B w0 w' → w'.heap.size = w.heap.size → (∀ i, i ≠ b → w'.heap[i]? = w.heap[i]?) → wpList P ops Q rest (a.put o.dst (.tuple #[])) w') : wpList P ops Q (o :: rest) a w := by
  refine wpList_plain hg fun K' hK' => ?_
  obtain ⟨w', hrun, h1, h2, h3, h4⟩ := h.put (x := x) ht hk hx hB hBb
  unfold Oper.wp
  simp [execOp, hop, hm, hy, hv, hrun, Result.andThen]
  exact hK' _ _ (hK w' h1 h2 h3 h4)
end
theorem zero_boolT (w : World) : (zeroValue 4).run Try.prog w = .ok (.bool false) w := by
  exact Try.zeroValue4 w
set_option maxHeartbeats 1000000 in
theorem less_int (a b : Int) (w : World) : Calls Try.prog 50 #[.int .i64 a, .int .i64 b] w fun e w' => e = .returned (.bool (decide (a < b))) ∧ w = w' := by
  go_enter Try.func50, Try.ntmps50
  go_wp2_with (go_at_call 58; refine (nan_int _ _).mono ?_; rintro e w' ⟨rfl, rfl⟩)
  go_ret
  exact ⟨ret_bool rfl, rfl⟩
set_option maxRecDepth 100000 in
set_option maxHeartbeats 1000000 in
theorem isSorted_any (A : Option Addr) (n c : Nat) (xs : List Int) (w : World) (h : Rd intE w.heap.size w A xs) (hn : n = xs.length) (hl : n ≤ 1000000) (hs : ∀ k x y, xs[k]? = some x → xs[k + 1]? = some y → ¬ y < x) :
    Calls Try.prog 26 #[.slice A n c] w fun e w' => e = .returned (.bool true) ∧ Ext w w' := by
  replace h := hide h
  replace hn := hide hn
  replace hs := hide hs
  have e0 : IntKind.i64.wrap ((n : Int) - 1) = (n : Int) - 1 := IntWalk.i64_in _ (by omega)
  go_enter Try.func26, Try.ntmps26
  go_wp2
  go_loopw [3] (fun q wr => ∃ z : Int, q = .int .i64 z ∧ -1 ≤ z ∧ z < n ∧ Ext w wr) (fun q _ => (intOf q).toNat)
  case atStart => exact ⟨(n : Int) - 1, rfl, by omega, by omega, Below.refl _ _⟩
  case round =>
    obtain ⟨z, rfl, hz0, hzn, hE⟩ := hrel
    by_cases hz : 0 < z
    · obtain ⟨k, rfl⟩ : ∃ k : Nat, z = (k : Int) := ⟨z.toNat, by omega⟩
      obtain ⟨j, rfl⟩ : ∃ j : Nat, k = j + 1 := ⟨k - 1, by omega⟩
      obtain ⟨b1, o1, rfl, ra⟩ := h.out.at_ (i := j + 1) (by rw [← hn.out]; omega)
      obtain ⟨p1, hp1⟩ := get_some (xs := xs) (i := j) (by rw [← hn.out]; omega)
      obtain ⟨p2, hp2⟩ := get_some (xs := xs) (i := j + 1) (by rw [← hn.out]; omega)
      have hx1 := (ra.below hE).int hp1
      have hx2 := (ra.below hE).int hp2
      have hb1 : b1 < wr.heap.size := cell_lt hx1
      have hlt := hs.out j p1 p2 hp1 hp2
      have hd : decide (p2 < p1) = false := decide_eq_false (by omega)
      obtain ⟨z1, hz1⟩ : ∃ z1 : Nat, z1 = j + 1 := ⟨_, rfl⟩
      rw [← hz1] at hx2 hz hzn ⊢
      have f1 : IntKind.i64.wrap ((z1 : Int) - 1) = (j : Int) := by rw [IntWalk.i64_in _ (by omega)]; omega
      have f2 : (0 : Int) ≤ (j : Int) := by omega
      have f3 : (j : Int) < (n : Int) := by omega
      have f4 : (0 : Int) ≤ (z1 : Int) := by omega
      replace hz1 := hide hz1
      replace hp1 := hide hp1
      replace hp2 := hide hp2
      replace ra := hide ra
      have hls := hide (fun W => less_int p2 p1 W)
      replace hlt := hide hlt
      replace hd := hide hd
      go_upto_region 4 with fail
      have T : Ext wr wr.drew := (Below.refl _ _).drew
      refine wp_region_mix (fun W => Below wr.heap.size wr W) [(0, true), (1, true), (2, true), (3, true), (4, true), (5, true), (6, true), (7, true), (8, true), (9, false)] (by kernel_rfl) (by kernel_rfl) (by kernel_rfl) (by kernel_rfl) (fun _ _ d _ _ h => by cases d <;> exact h) ?_ ?_
      · exact T
      obtain ⟨wl, hwh⟩ : ∃ x, x = wr.drew := ⟨_, rfl⟩
      rw [← hwh] at T ⊢
      clear hwh
      iterate 9
        apply mix_q rfl rfl
        · intro W hW
          have hcW := (bcell hW).1
          go_simp
          try exact rfl
        simp only [Act.put, List.setIfInBounds_toArray, List.set_cons_zero, List.set_cons_succ]
      refine mix_w rfl rfl (fun K hK => ?_)
      go_simp
      refine (hls.out _).mono ?_
      rintro e wn ⟨rfl, hw⟩
      subst hw
      rw [hd.out]
      refine hK _ _ T ?_
      clear hK K
      try simp only [Act.put, List.setIfInBounds_toArray, List.set_cons_zero, List.set_cons_succ]
      refine mix_nil ?_
      have hE2 := hE.trans (T.mono hE.size)
      clear hE T hx1 hx2
      go_wp2
      refine ⟨⟨(j : Int), by first | rfl | simp, by omega, by omega, hE2⟩, ?_⟩
      have := hz1.out
      simp [intOf]; omega
    · go_wp2
      go_ret
      exact ⟨rfl, hE⟩
end Go.Proofs.Ytepgpiolhiidiaa
