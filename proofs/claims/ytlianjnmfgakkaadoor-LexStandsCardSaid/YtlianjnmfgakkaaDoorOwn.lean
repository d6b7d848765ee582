/- Rows of the call's own: append, make; what stays as it was beside them. -/
import Derived.Test.YtlianjnmfgakkaaDoorMix
import Derived.Maps.AppendAt
namespace Go.Proofs.YtlianjnmfgakkaaDoor
open Go.RowKit

/-- the type's rows in the program's table, for elements E -/
structure Ty {α : Type} (P : Program) (E : El α) (t e : TypeId) (bytes : Nat) : Prop where
  und : P.underlying t = some (.slice e)
  info : ∃ i z, P.info? e = some i ∧ i.zero = some z ∧ i.size = E.sz ∧ i.bytes = bytes ∧ z.cells.size = E.sz
  small : bytes ≤ 1000000

theorem ty_of {α : Type} {P : Program} {E : El α} {t e : TypeId} {bytes : Nat} {z : Value} {sz : Nat} (h1 : P.underlying t = some (.slice e))
    (h2 : (P.info? e).map (fun i => (i.zero, i.size, i.bytes)) = some (some z, sz, bytes)) (h3 : sz = E.sz) (h4 : z.cells.size = sz) (h5 : bytes ≤ 1000000) : Ty P E t e bytes := by
  obtain ⟨i, hi, a, b, c⟩ := info_parts h2
  exact ⟨h1, ⟨i, z, hi, a, b.trans h3, c, h4.trans h3⟩, h5⟩

def Own {α : Type} (E : El α) (e : TypeId) (base : Nat) (w : World) (v : Value) (xs : List α) : Prop := w.ownsRow base e E.sz v xs.length (E.row xs)

section
variable {α : Type} {E : El α} {e : TypeId} {base : Nat} {w w' w0 : World} {v : Value} {xs : List α}
theorem Own.nil_ : Own E e base w (.slice none 0 0) [] := World.ownsRow_nil w base e E.sz
theorem Own.rd (h : Own E e base w v xs) : ∃ A c, v = .slice A xs.length c ∧ Rd E w.heap.size w A xs ∧ xs.length ≤ c ∧ c ≤ maxLen := rd_of_own h
theorem Own.kept (h : Own E e base w v xs) {row : Option Nat} (hg : w.grownBy w' row) (hne : v.ownBlock = none ∨ v.ownBlock ≠ row) : Own E e base w' v xs := World.ownsRow.kept h hg hne
/-- a head of a row of the call's own -/
theorem Own.take {A : Option Addr} {n c : Nat} (h : Own E e base w (.slice A n c) xs) {k : Nat} (hk : k ≤ n) : Own E e base w (.slice A k c) (xs.take k) := by
  obtain ⟨A', c', hv, -, -, -⟩ := rd_of_own h
  injection hv with h1 h2 h3
  subst h1 h2 h3
  have hl : (xs.take k).length = k := by rw [List.length_take]; omega
  unfold Own
  rw [hl]
  refine ⟨by rw [E.row_length, hl], ?_⟩
  rcases h.2 with ⟨h1, h2⟩ | ⟨g, cap, cur, h1, hb, hg, hnc, hcm, hsz, hcur⟩
  · injection h1 with h3 h4 h5
    subst h3 h5
    obtain rfl : k = 0 := by omega
    exact .inl ⟨rfl, rfl⟩
  · injection h1 with h3 h4 h5
    subst h3 h5
    refine .inr ⟨g, _, cur, rfl, hb, hg, by omega, hcm, hsz, ?_⟩
    have := congrArg (List.take (k * E.sz)) hcur
    rw [E.row_take, List.take_take, Nat.min_eq_left (Nat.mul_le_mul_right _ hk)] at this
    exact this
theorem Own.base_le (h : Own E e base w v xs) {b' : Nat} (hb : b' ≤ base) : Own E e b' w v xs := by
  refine ⟨h.1, h.2.imp id ?_⟩
  rintro ⟨g, cap, cur, h1, h2, h3⟩
  exact ⟨g, cap, cur, h1, Nat.le_trans hb h2, h3⟩
theorem Own.ext (h : Own E e base w v xs) (hb : Ext w w') : Own E e base w' v xs :=
  h.kept (row := none) ⟨hb.os, hb.tape, hb.output, hb.size, fun k hk _ => hb.block k hk⟩ (by cases h' : v.ownBlock <;> simp)
theorem Own.drew (h : Own E e base w v xs) : Own E e base w.drew v xs := h
theorem Own.alloc (h : Own E e base w v xs) (o : Obj) : Own E e base (w.alloc o) v xs := World.ownsRow.alloc h o
theorem Own.lt (h : Own E e base w v xs) : ∀ k, v.ownBlock = some k → base ≤ k ∧ k < w.heap.size := World.ownsRow.lt h
/-- the row's block, by its type, is another than one of another type -/
theorem Own.block (h : Own E e base w v xs) : ∀ k, v.ownBlock = some k → ∃ c, w.heap[k]? = some (.cells c e (0, 0)) := by
  intro k hk
  rcases h.2 with ⟨rfl, _⟩ | ⟨g, cap, cur, rfl, hb, hg, _⟩
  · simp [Value.ownBlock] at hk
  · simp [Value.ownBlock] at hk
    subst hk
    exact ⟨cur, hg⟩
theorem Own.ne_type {α' : Type} {E' : El α'} {e' : TypeId} {base' : Nat} {v' : Value} {ys : List α'} (h : Own E e base w v xs) (h' : Own E' e' base' w v' ys) (hne : e ≠ e') : v.ownBlock = none ∨ v.ownBlock ≠ v'.ownBlock := by
  cases hv : v.ownBlock with
  | none => exact .inl rfl
  | some k =>
    refine .inr fun he => ?_
    obtain ⟨c, hc⟩ := h.block k hv
    obtain ⟨c', hc'⟩ := h'.block k he.symm
    rw [hc] at hc'
    injection hc' with hc'
    injection hc' with _ ht
    exact hne ht
theorem Own.app {α' : Type} {E' : El α'} {e' : TypeId} {base' : Nat} {s : Value} {ys : List α'} (h : Own E e base w v xs) (ho : Own E' e' base' w s ys) (hg : w.grownBy w' s.ownBlock) (hne : e ≠ e') : Own E e base w' v xs :=
  h.kept hg (h.ne_type ho hne)
theorem Own.below (h : Own E e base w v xs) (hB : Below base w0 w) (hg : w.grownBy w' v.ownBlock) (hb : base ≤ w.heap.size) : Below base w0 w' :=
  hB.grown hg hb (fun k hk => (h.lt k hk).1)
theorem own_new (E : El α) (w : World) (x : α) (g : Nat) (hg : w.heap.size = g) (hb : base ≤ g) : Own E e base (w.alloc (.cells (E.cs x).toArray e)) (.slice (some ⟨g, 0, none⟩) 1 1) [x] := by
  subst hg
  refine ⟨by rw [E.row_length], .inr ⟨w.heap.size, 1, _, rfl, hb, heap_alloc_new w _, Nat.le_refl _, by simp [maxLen], by simp [E.len], ?_⟩⟩
  rw [E.row_one, List.length_singleton, Nat.one_mul]
  simp only [List.toList_toArray]
  exact List.take_of_length_le (by rw [E.len]; exact Nat.le_refl _)
theorem rd_newAt (E : El α) (w : World) (x : α) (g : Nat) (hg : w.heap.size = g) : Rd E (g + 1) (w.alloc (.cells (E.cs x).toArray e)) (some ⟨g, 0, none⟩) [x] := by
  subst hg
  refine .inr ⟨w.heap.size, 0, rfl, Nat.lt_succ_self _, fun i y hy j u hu => ?_⟩
  have hi : i = 0 := by
    have := (List.getElem?_eq_some_iff.1 hy).1
    simpa using this
  subst hi
  obtain rfl : x = y := by simpa using hy
  rw [show (0 + 0 * E.sz + j) = j by omega, World.cell?_alloc_new]
  simpa using hu
theorem rd_new (w : World) (x : α) (cs : Array Value) (hc : cs = (E.cs x).toArray) : Rd E (w.heap.size + 1) (w.alloc (.cells cs e)) (some ⟨w.heap.size, 0, none⟩) [x] := by
  subst hc
  refine .inr ⟨w.heap.size, 0, rfl, Nat.lt_succ_self _, fun i y hy j u hu => ?_⟩
  have hi : i = 0 := by
    have := (List.getElem?_eq_some_iff.1 hy).1
    simpa using this
  subst hi
  obtain rfl : x = y := by simpa using hy
  rw [show (0 + 0 * E.sz + j) = j by omega, World.cell?_alloc_new]
  simpa using hu
end

section
variable {α : Type} {P : Program} {E : El α} {t e : TypeId} {bytes base B : Nat} {w : World} {v : Value} {xs ys : List α} {o : Oper} {a : Act} {K : Act → World → Prop} {Q : Exit → Act → World → Prop}

/-- append of whatever reads as a list onto a row of the call's own -/
theorem wp_app (T : Ty P E t e bytes) (s x : Operand) (ho : o.op = .call { callee := .builtin .append, args := #[s, x], argTypes := #[t, t] })
    (hs : a.eval s = v) (hown : Own E e base w v xs) {A : Option Addr} {m c : Nat} (hx : a.eval x = .slice A m c) (hr : Rd E B w A ys) (hm : m = ys.length)
    (hlen : xs.length + ys.length ≤ 100000000) (hbase : base ≤ w.heap.size)
    (h : ∀ v' w', Own E e base w' v' (xs ++ ys) → w.grownBy w' v.ownBlock → (v'.ownBlock = v.ownBlock ∨ v'.ownBlock = some w.heap.size) → (v' = .slice none 0 0 ↔ v = .slice none 0 0 ∧ ys = []) → K (a.put o.dst v') w') : o.wp P a w K Q := by
  obtain ⟨i, z, hi, hz, hsz, hby, hzs⟩ := T.info
  subst hm
  have key : ∃ v' w', (Builtin.append_ #[t, t] o.type #[v, .slice A ys.length c]).run P w = .ok v' w' ∧ Own E e base w' v' (xs ++ ys) ∧ w.grownBy w' v.ownBlock ∧
      (v'.ownBlock = v.ownBlock ∨ v'.ownBlock = some w.heap.size) ∧ (v' = .slice none 0 0 ↔ v = .slice none 0 0 ∧ ys = []) := by
    rcases A with _ | ad
    · have hn : ys = [] := by
        rcases hr with h | ⟨_, _, h, _⟩
        · exact h
        · cases h
      subst hn
      refine ⟨v, w, ?_, by simpa using hown, World.grownBy.refl w _, .inl rfl, by simp⟩
      rcases hown.2 with ⟨rfl, _⟩ | ⟨g, cap, cur, rfl, _, _, hnc, _⟩
      · simp [Builtin.append_, run_underlying T.und, sizeOf, typeInfo, hi, Builtin.lenOf, Builtin.firstCells]
      · simp [Builtin.append_, run_underlying T.und, sizeOf, typeInfo, hi, Builtin.lenOf, Builtin.firstCells, hnc, storeCells]
    · have hcells : ∀ j u, (E.row ys)[j]? = some u → w.cell? (ad.add j) = some u := by
        rcases hr with rfl | ⟨b, off, he, hr⟩
        · intro j u hu; simp at hu
        · injection he with he
          subst he
          exact hr.cells
      have hb2 : (xs.length + ys.length) * bytes ≤ 140737488355328 := Nat.le_trans (Nat.mul_le_mul hlen T.small) (by omega)
      obtain ⟨v', w', hrun, h2, h3, h4, h5⟩ := run_append_own_at (P := P) w base t o.type e i z E.sz bytes T.und hi hz hsz hby hzs E.pos v xs.length (E.row xs) hown ad ys.length c (E.row ys) (E.row_length ys) hcells (E.row_one' ys) (by simp only [maxLen]; omega) hb2 hbase
      exact ⟨v', w', hrun, by unfold Own; rw [List.length_append, E.row_append]; exact h2, h3, h5, by rw [h4]; simp⟩
  obtain ⟨v', w', hrun, h2, h3, h4, h5⟩ := key
  unfold Oper.wp execOp
  simp only [ho, resolve, invoke, builtin, Sem.run_bind, Sem.run_pure, Result.andThen_ok, List.map_toArray, List.map_cons, List.map_nil, hs, hx, hrun]
  exact h v' w' h2 h3 h4 h5

theorem wpList_app {ops : Array Oper} {rest : List Oper} (T : Ty P E t e bytes) (hgd : o.guard = none) (s x : Operand) (ho : o.op = .call { callee := .builtin .append, args := #[s, x], argTypes := #[t, t] })
    (hs : a.eval s = v) (hown : Own E e base w v xs) {A : Option Addr} {m c : Nat} (hx : a.eval x = .slice A m c) (hr : Rd E B w A ys) (hm : m = ys.length)
    (hlen : xs.length + ys.length ≤ 100000000) (hbase : base ≤ w.heap.size)
    (h : ∀ v' w', Own E e base w' v' (xs ++ ys) → w.grownBy w' v.ownBlock → (v'.ownBlock = v.ownBlock ∨ v'.ownBlock = some w.heap.size) → (v' = .slice none 0 0 ↔ v = .slice none 0 0 ∧ ys = []) → wpList P ops Q rest (a.put o.dst v') w') :
    wpList P ops Q (o :: rest) a w :=
  wpList_plain hgd fun _ hK => wp_app T s x ho hs hown hx hr hm hlen hbase fun v' w' h1 h2 h3 h4 => hK _ _ (h v' w' h1 h2 h3 h4)

/-- copy over the whole of a row of the call's own -/
theorem wp_copy (T : Ty P E t e bytes) (d s : Operand) (ho : o.op = .call { callee := .builtin .copy, args := #[d, s], argTypes := #[t, t] })
    (hd : a.eval d = v) (hown : Own E e base w v xs) {A : Option Addr} {m c : Nat} (hs : a.eval s = .slice A m c) (hr : Rd E B w A ys) (hm : m = ys.length) (hl : xs.length = ys.length)
    (h : ∀ w', Own E e base w' v ys → w.grownBy w' v.ownBlock → K (a.put o.dst (goInt m)) w') : o.wp P a w K Q := by
  obtain ⟨i, z, hi, hz, hsz, hby, hzs⟩ := T.info
  subst hm
  have key : ∃ w', (Builtin.copy_ #[t, t] o.type #[v, .slice A ys.length c]).run P w = .ok (goInt ys.length) w' ∧ Own E e base w' v ys ∧ w.grownBy w' v.ownBlock := by
    by_cases h0 : ys = []
    · subst h0
      have hx : xs = [] := List.eq_nil_of_length_eq_zero hl
      subst hx
      refine ⟨w, ?_, hown, World.grownBy.refl w _⟩
      rcases hown.2 with ⟨rfl, _⟩ | ⟨g, cap, cur, rfl, _, _, _, _⟩ <;> cases A <;>
        simp [Builtin.copy_, run_underlying T.und, sizeOf, typeInfo, hi, Builtin.lenOf, Builtin.firstCells, storeCells, loadCells, loadCellsFrom]
    · have hpos : 0 < ys.length := List.length_pos_iff.2 h0
      obtain ⟨b, off, rfl, hra⟩ := hr.at_ hpos
      rcases hown.2 with ⟨rfl, hx0⟩ | ⟨g, cap, cur, rfl, hb, hg, hnc, hcm, hcs, hcur⟩
      · omega
      · have hL := run_loadCells_list (P := P) w ⟨b, off, none⟩ (E.row ys) hra.cells
        have hrl : (E.row ys).length = ys.length * E.sz := E.row_length ys
        have hfit : (E.row ys).length ≤ cur.size := by rw [hrl, hcs, ← hl]; exact Nat.mul_le_mul_right _ hnc
        have hS := run_storeCells_at P g 0 e (E.row ys) 0 cur w hg (by simpa using hfit) (E.row_one' ys)
        refine ⟨w.setRow g (cur.toList.take (0 + 0) ++ E.row ys ++ cur.toList.drop (0 + 0 + (E.row ys).length)).toArray, ?_, ?_, ?_⟩
        · rw [hrl] at hL
          simp [Builtin.copy_, run_underlying T.und, sizeOf, typeInfo, hi, hsz, Builtin.lenOf, Builtin.firstCells, hl, hL] at hS ⊢
          rw [hS]
          rfl
        · refine ⟨hrl, .inr ⟨g, cap, _, by rw [hl], hb, setRow_heap w g cur _ e _ hg, by omega, hcm, ?_, ?_⟩⟩
          · simp
            omega
          · simp only [Nat.add_zero, List.take_zero, List.nil_append, List.toList_toArray, Nat.zero_add]
            rw [← hrl]
            exact List.take_left
        · exact ⟨rfl, rfl, rfl, by simp [World.setRow], fun k _ hk => setRow_other w g k _ (fun e => hk (by simp [Value.ownBlock, e]))⟩
  obtain ⟨w', hrun, h2, h3⟩ := key
  unfold Oper.wp execOp
  simp only [ho, resolve, invoke, builtin, Sem.run_bind, Sem.run_pure, Result.andThen_ok, List.map_toArray, List.map_cons, List.map_nil, hd, hs, hrun]
  exact h w' h2 h3
theorem wpList_copy {ops : Array Oper} {rest : List Oper} (T : Ty P E t e bytes) (hgd : o.guard = none) (d s : Operand) (ho : o.op = .call { callee := .builtin .copy, args := #[d, s], argTypes := #[t, t] })
    (hd : a.eval d = v) (hown : Own E e base w v xs) {A : Option Addr} {m c : Nat} (hs : a.eval s = .slice A m c) (hr : Rd E B w A ys) (hm : m = ys.length) (hl : xs.length = ys.length)
    (h : ∀ w', Own E e base w' v ys → w.grownBy w' v.ownBlock → wpList P ops Q rest (a.put o.dst (goInt m)) w') : wpList P ops Q (o :: rest) a w :=
  wpList_plain hgd fun _ hK => wp_copy T d s ho hd hown hs hr hm hl fun w' h1 h2 => hK _ _ (h w' h1 h2)

/-- make([]T, 0, n) -/
theorem wpList_make0 {ops : Array Oper} {rest : List Oper} (T : Ty P E t e bytes) (hgd : o.guard = none) (l c : Operand) (hop : o.op = Op.makeSlice t l c) {kl kc : IntKind} {C : Int} {n : Nat}
    (hl : a.eval l = .int kl 0) (hc : a.eval c = .int kc C) (hC : C = (n : Int)) (hn : n ≤ 100000000) (hbase : base ≤ w.heap.size)
    (h : ∀ w', Own E e base w' (.slice (some ⟨w.heap.size, 0, none⟩) 0 n) [] → w.grownBy w' none → wpList P ops Q rest (a.put o.dst (.slice (some ⟨w.heap.size, 0, none⟩) 0 n)) w') :
    wpList P ops Q (o :: rest) a w := by
  obtain ⟨i, z, hi, hz, hsz, hby, hzs⟩ := T.info
  refine wpList_make_own w hgd l c t hop base e i z E.sz T.und hi hz hsz kl kc C n hl hc hC ?_ (by simp only [maxLen]; omega) hbase h
  rw [hby]
  exact Nat.le_trans (Nat.mul_le_mul T.small hn) (by omega)
/-- make([]T, n): n zero elements, whatever they read as: given as a list zs of their cells -/
theorem wpList_make {ops : Array Oper} {rest : List Oper} (T : Ty P E t e bytes) (hgd : o.guard = none) (l c : Operand) (hop : o.op = Op.makeSlice t l c) {kl kc : IntKind} {L C : Int} {n : Nat} {z0 : α}
    (hz0 : ∀ i z, P.info? e = some i → i.zero = some z → z.cells.toList = E.cs z0) (hl : a.eval l = .int kl L) (hL : L = (n : Int)) (hc : a.eval c = .int kc C) (hC : C = (n : Int)) (hn : n ≤ 100000000) (hbase : base ≤ w.heap.size)
    (h : ∀ w', Own E e base w' (.slice (some ⟨w.heap.size, 0, none⟩) n n) (List.replicate n z0) → w.grownBy w' none → wpList P ops Q rest (a.put o.dst (.slice (some ⟨w.heap.size, 0, none⟩) n n)) w') :
    wpList P ops Q (o :: rest) a w := by
  obtain ⟨i, z, hi, hz, hsz, hby, hzs⟩ := T.info
  refine wpList_make_full w hgd l c t hop base e i z E.sz T.und hi hz hsz kl kc L C n hl hc hL hC ?_ (by simp only [maxLen]; omega) hbase (fun w' h1 h2 => h w' ?_ h2)
  · rw [hby]
    exact Nat.le_trans (Nat.mul_le_mul T.small hn) (by omega)
  · have hcz := hz0 i z hi hz
    unfold Own
    rw [List.length_replicate]
    have e1 : (madeCells z.cells (n * E.sz)).toList = E.row (List.replicate n z0) := by
      apply List.ext_getElem?
      intro j
      by_cases hj : j < n * E.sz
      · have hp := E.pos
        have hm : j % E.sz < E.sz := Nat.mod_lt _ hp
        have hx : (List.replicate n z0)[j / E.sz]? = some z0 := by
          rw [List.getElem?_replicate, if_pos (Nat.div_lt_of_lt_mul (by rw [Nat.mul_comm]; exact hj))]
        have hm' : j % E.sz < (E.cs z0).length := by rw [E.len]; exact hm
        have h1 := E.row_get _ _ _ hx (j % E.sz) _ (List.getElem?_eq_getElem hm')
        rw [Nat.div_add_mod'] at h1
        rw [h1]
        have hm2 : j % z.cells.size < z.cells.size := by rw [hzs]; exact hm
        simp only [madeCells, Array.toList_map, Array.toList_range, List.getElem?_map, List.getElem?_range hj, Option.map_some]
        rw [getElem!_pos z.cells _ hm2]
        congr 1
        have : z.cells[j % z.cells.size] = z.cells.toList[j % z.cells.size]'(by simpa using hm2) := by simp
        rw [this]
        simp only [hcz, hzs]
      · rw [List.getElem?_eq_none (by simp [madeCells]; omega), List.getElem?_eq_none (by rw [E.row_length, List.length_replicate]; omega)]
    rw [← e1]
    exact h1
end
/-! ### A variable in a block of its own -/
def Box (w : World) (b : Nat) (t : TypeId) (v : Value) : Prop := w.heap[b]? = some (.cells #[v] t (0, 0))
section
variable {w w' : World} {b : Nat} {t : TypeId} {v : Value}
theorem Box.cell (h : Box w b t v) : w.cell? ⟨b, 0, none⟩ = some v := cell_of_one h
theorem Box.free (h : Box w b t v) : w.frozen? ⟨b, 0, none⟩ = false := free_of_one h
theorem Box.lt (h : Box w b t v) : b < w.heap.size := lt_of_block h
theorem Box.set (h : Box w b t v) (u : Value) : Box (w.setCell ⟨b, 0, none⟩ u) b t u := one_setCell h
theorem Box.far (h : Box w b t v) {p : Addr} (hp : b ≠ p.block) (u : Value) : Box (w.setCell p u) b t v := (Below.heap_setCell w p u b hp).trans h
theorem Box.ext (h : Box w b t v) (hb : Ext w w') : Box w' b t v := (hb.block b h.lt).trans h
theorem Box.grown (h : Box w b t v) {row : Option Nat} (hg : w.grownBy w' row) (hr : some b ≠ row) : Box w' b t v := (hg.block b h.lt hr).trans h
theorem Box.new (w : World) (t : TypeId) (v : Value) : Box (w.alloc (.cells #[v] t)) w.heap.size t v := heap_alloc_new w _
theorem Box.alloc (h : Box w b t v) (o : Obj) : Box (w.alloc o) b t v := (Below.heap_alloc w o b h.lt).trans h
theorem Box.drew (h : Box w b t v) : Box w.drew b t v := h
theorem Box.ne {b' : Nat} {t' : TypeId} {v' : Value} (h : Box w b t v) (h' : Box w b' t' v') (hne : t ≠ t') : b ≠ b' := by
  rintro rfl
  unfold Box at h h'
  rw [h] at h'
  injection h' with h'
  injection h' with _ ht
  exact hne ht
variable {α : Type} {E : El α} {e : TypeId} {base : Nat} {xs : List α} {s : Value}
theorem Own.ne_box (h : Own E e base w s xs) (h' : Box w b t v) (hne : e ≠ t) : s.ownBlock ≠ some b := by
  intro hs
  obtain ⟨c, hc⟩ := h.block b hs
  unfold Box at h'
  rw [hc] at h'
  injection h' with h'
  injection h' with _ ht
  exact hne ht
theorem Own.set (h : Own E e base w s xs) (h' : Box w b t v) (hne : e ≠ t) (u : Value) : Own E e base (w.setCell ⟨b, 0, none⟩ u) s xs :=
  ownsRow_setCell_other h (h.ne_box h' hne) u
theorem Box.app (h : Box w b t v) (ho : Own E e base w s xs) (hg : w.grownBy w' s.ownBlock) (hne : e ≠ t) : Box w' b t v :=
  h.grown hg (Ne.symm (ho.ne_box h hne))
end
theorem grown_none {w w' : World} (h : w.grownBy w' none) : Ext w w' := ⟨h.os, h.tape, h.output, h.size, fun k hk => h.block k hk (by simp)⟩
end Go.Proofs.YtlianjnmfgakkaaDoor
