/- slices.Collect over graph.edges; In, Filter. -/
import Derived.Test.YtepgpiolhiidiaaGraN
import Derived.Maps.OwnIn
namespace Go.Proofs.Ytepgpiolhiidiaa
open Go.RowKit Go.Shelf
attribute [local go_sem] Oper.semAt_some

section
variable {α : Type} {F : Fence} {nF : Nat} {P : Program} {E : El α} {t e : TypeId} {bytes base B : Nat} {w : World} {v : Value} {xs : List α} {y : α} {o : Oper} {a : Act} {Q : Exit → Act → World → Prop}
theorem wpListIn_app1 {ops : Array Oper} {rest : List Oper} (T : Ty P E t e bytes) (hgd : o.guard = none) (s x : Operand) (ho : o.op = .call { callee := .builtin .append, args := #[s, x], argTypes := #[t, t] })
    (hs : a.eval s = v) (hown : Own E e base w v xs) {ad : Addr} (hx : a.eval x = .slice (some ad) 1 1) (hr : Rd E B w (some ad) [y])
    (hlen : xs.length + 1 ≤ 100000000) (hbase : base ≤ w.heap.size)
    (h : ∀ v' w', Own E e base w' v' (xs ++ [y]) → w.grownBy w' v.ownBlock → wpListIn F nF P ops Q rest (a.put o.dst v') w') : wpListIn F nF P ops Q (o :: rest) a w := by
  obtain ⟨i, z, hi, hz, hsz, hby, hzs⟩ := T.info
  have hcells : ∀ j u, (E.cs y)[j]? = some u → w.cell? (ad.add j) = some u := by
    rcases hr with h | ⟨b, off, he, hr⟩
    · cases h
    · injection he with he
      subst he
      intro j u hu
      refine hr.cells j u ?_
      rw [El.row_one]; exact hu
  have hb2 : (xs.length + 1) * bytes ≤ 140737488355328 := Nat.le_trans (Nat.mul_le_mul hlen T.small) (by omega)
  refine wpListIn_append_own_at w hgd s x t ho base e i z E.sz bytes T.und hi hz hsz hby hzs E.pos v xs.length (E.row xs) hs hown ad 1 1 (E.cs y) hx (by rw [E.len]; omega) hcells (E.one y) (by simp only [maxLen]; omega) hb2 hbase ?_
  intro v' w' h1 h2 _ _
  refine h v' w' ?_ h2
  unfold Own
  rw [List.length_append, List.length_singleton, E.row_append, E.row_one]
  exact h1
end
theorem noncell_ne {A : World} {row : Option Nat} {b : Nat} {t : TypeId} {cs : Array Value} {fr : Nat × Nat} (h : A.heap[b]? = some (.cells cs t fr)) (hr : ∀ r, row = some r → ∃ o : Obj, A.heap[r]? = some o ∧ o.isCells = false) : some b ≠ row := by
  intro e
  obtain ⟨o, ho, hc⟩ := hr b e.symm
  rw [h] at ho
  injection ho with ho
  subst ho
  cases hc
theorem Own.noncell {α : Type} {E : El α} {e : TypeId} {base : Nat} {A B : World} {v : Value} {xs : List α} {row : Option Nat} (h : Own E e base A v xs) (hg : A.grownBy B row) (hr : ∀ r, row = some r → ∃ o : Obj, A.heap[r]? = some o ∧ o.isCells = false) : Own E e base B v xs := by
  refine h.kept hg ?_
  cases hv : v.ownBlock with
  | none => exact .inl rfl
  | some k =>
    obtain ⟨c, hc⟩ := h.block k hv
    exact .inr (noncell_ne hc hr)
theorem Own.putObj {α : Type} {E : El α} {e : TypeId} {base : Nat} {A : World} {v : Value} {xs : List α} (h : Own E e base A v xs) {D : Nat} {o : Obj} (o' : Obj) (hD : A.heap[D]? = some o) (ho : o.isCells = false) : Own E e base (A.putObj D o') v xs :=
  h.noncell (grownBy_putObj' A D o') (fun r e => by cases e; exact ⟨o, hD, ho⟩)
theorem KpE.below {n₀ fB : Nat} {A C : World} (h : Below n₀ A C) (hf : fB < n₀) : KpE n₀ fB A C := ⟨h, fun o ho => (h.block fB hf).trans ho⟩
/-- a function that only adds memory, asked of the edges of a row -/
def HoldP (hf : FuncId) (cb : Array Value) (xs : List (Int × Int × Int)) (p : Int × Int × Int → Bool) (w : World) : Prop :=
  (∀ (args : Array Value) (W : World), (callFunc hf args).run Try.prog W = .ok (.enter hf args) W) ∧
  ∀ a b c W, (a, b, c) ∈ xs → Ext w W → Calls Try.prog hf (#[.agg #[.int .i64 a, .int .i64 b, .int .i64 c]] ++ cb) W fun e W' => e = .returned (.bool (p (a, b, c))) ∧ Ext W W'
theorem keeps_ext {B : Nat} {A C : World} (h : Ext A C) : KeepsFrom B A C := ⟨h.size, fun k o _ hk _ => (h.block k (Array.getElem?_eq_some_iff.1 hk).1).trans hk⟩
theorem holdE_of {hf : FuncId} {cb : Array Value} {xs : List (Int × Int × Int)} {p : Int × Int × Int → Bool} {w : World} {fB : Nat} (h : HoldP hf cb xs p w) {n₀ B : Nat} (hn : n₀ ≤ w.heap.size) {I : StE → World → Prop} (hI : ∀ s A, I s A → Ext w A) (hI2 : ∀ k k' pre A C, I (k, pre) A → Ext A C → I (k', pre) C)
    {R : World → Prop} (hR : ∀ A C, R A → KeepsFrom B A C → R C) : HoldE hf cb xs p (KpE n₀ fB) (fun s W => I s W ∧ R W) := by
  intro k pre a b c W0 W1 ⟨h1, h2⟩ hE hx
  have hE1 := hI _ _ h1
  refine (h.2 a b c W1 (List.mem_of_getElem? hx) (hE1.trans (hE.mono hE1.size))).mono ?_
  rintro e W' ⟨rfl, hE'⟩
  have hE2 := hE.trans (hE'.mono hE.size)
  exact ⟨rfl, ⟨hI2 k (k + 1) pre _ _ h1 hE2, hR _ _ h2 (keeps_ext hE2)⟩, KpE.ext hE' (Nat.le_trans hn (Nat.le_trans hE1.size hE.size)), fun t _ ht => hE'.block t ht⟩
set_option maxRecDepth 100000 in
set_option maxHeartbeats 4000000 in
theorem appendSeq_any (gB fB : Nat) (A : Option Addr) (m c : Nat) (xs : List (Int × Int × Int)) (hm : m = xs.length) (hl : m ≤ 1000000) (hf : FuncId) (cb : Array Value) (p : Int × Int × Int → Bool) (w : World)
    (hg : w.cell? ⟨gB, 1, none⟩ = some (.slice A m c)) (hfc : w.cell? ⟨fB, 0, none⟩ = some (.func (.func hf) #[] cb)) (hr : Rd edgeE w.heap.size w A xs) (hH : HoldP hf cb xs p w) :
    Calls Try.prog 64 #[.slice none 0 0, .func (.func 65) #[] #[.pointer (some ⟨gB, 0, none⟩), .pointer (some ⟨fB, 0, none⟩)]] w fun e w' => ∃ v, e = .returned v ∧ Own edgeE 50 w.heap.size w' v (xs.filter p) ∧ Ext w w' := by
  refine (callsIn_wide (n := 10)).1 ?_
  have hgl := cell_lt hg
  have hfl := cell_lt hfc
  refine callsIn_of_wp_marks Try.func64 rfl trivial ?_ rfl
  simp only [Try.ntmps64, List.size_toArray, List.length_cons, List.length_nil, Nat.reduceAdd, Nat.reduceSub, Array.replicate_succ, Array.replicate_zero, List.push_toArray, List.append_toArray, List.nil_append, List.cons_append]
  gi_wp2
  obtain ⟨w1, hw1⟩ : ∃ x, x = w.alloc (.cells #[.slice none 0 0] 22) := ⟨_, rfl⟩
  have hE1 : Ext w w1 := by rw [hw1]; exact (Below.refl _ w).alloc (Nat.le_refl _) _
  have B1 : Box w1 w.heap.size 22 (.slice none 0 0) := by rw [hw1]; exact Box.new _ _ _
  rw [← hw1]
  clear hw1
  obtain ⟨sB, hsB⟩ : ∃ x, x = w.heap.size := ⟨_, rfl⟩
  rw [← hsB] at B1 ⊢
  have hle : w.heap.size ≤ sB := by omega
  clear hsB
  have hs1 : w.heap.size ≤ w1.heap.size := hE1.size
  have hfl1 : fB < w1.heap.size := by omega
  refine rangeS rfl (by decide) (gf := 65) (lb := #[.pointer (some ⟨gB, 0, none⟩), .pointer (some ⟨fB, 0, none⟩)]) rfl trivial (enters_of Try.func65 (by kernel_rfl) rfl)
    (edges_seq 9 gB fB w.heap.size A m c xs hm hl hf cb p hH.1 w (Nat.le_refl _) hg hfc hr) (fun h k => h.trans k) (fun W l o o' h1 _ _ _ => KpE.turn hs1 hfl1 W l o' h1) (fun h k => h.trans k) (fun h k => h.trans k) (fun s x _ _ _ hs _ _ => hs) hE1 (fun _ => rfl)
    (fun (s : StE) W => (∃ v, Box W sB 22 v ∧ Own edgeE 50 w.heap.size W v s.2) ∧ Below w.heap.size w W)
    (fun _ _ _ => False)
    (OwnFrom.and (Own.from (fun sx A B row hs hg hr => by obtain ⟨v, h1, h2⟩ := hs; exact ⟨v, h1.grown hg (noncell_ne h1 hr), h2.noncell hg hr⟩) _) (ownFrom_below (Nat.le_refl _) hs1))
    (fun _ _ _ _ _ hs _ _ => hs)
    ⟨⟨_, B1, Own.nil_⟩, hE1⟩
    (fun R hR => holdE_of hH (Nat.le_refl _) (fun s A h => h.2) (fun k k' pre A C h hE => by obtain ⟨⟨v, h1, h2⟩, h3⟩ := h; exact ⟨⟨v, h1.ext hE, h2.ext hE⟩, h3.trans (hE.mono h3.size)⟩) hR)
    (fun (x : Int × Int × Int) b W => ∃ p5, BoxN W p5 50 #[.int .i64 x.1, .int .i64 x.2.1, .int .i64 x.2.2] ∧
      b = { tmps := #[.slice none 0 0, .func (.func 65) #[] #[.pointer (some ⟨gB, 0, none⟩), .pointer (some ⟨fB, 0, none⟩)], .pointer (some ⟨sB, 0, none⟩), undef, .slice none 0 0, .pointer (some ⟨p5, 0, none⟩), .func (.func 65) #[] #[.pointer (some ⟨gB, 0, none⟩), .pointer (some ⟨fB, 0, none⟩)], .agg #[.int .i64 x.1, .int .i64 x.2.1, .int .i64 x.2.2], undef, undef, undef, undef, undef], defers := [] })
    (fun x b A B row h hg hr => by obtain ⟨p5, h1, h2⟩ := h; exact ⟨p5, h1.grown hg (noncell_ne h1 (fun r e => (hr r e).2)), h2⟩)
    (fun A B hA hg => KpE.ext (grown_none hg) (by omega)) ?assign ?body ?done ?stop
  case assign =>
    intro l x W K hK
    dsimp only [encE]
    gi_wp2
    exact hK _ _ (World.grownBy_alloc W _ none) ⟨W.heap.size, BoxN.new _ _ _, rfl⟩
  case body =>
    rintro l ⟨k, pre⟩ ⟨p1, p2, p3⟩ W b ⟨⟨v, hv, hrow⟩, hB⟩ hX ⟨p5, X5, rfl⟩
    have hlen : pre.length + 1 ≤ 1000000 := by
      have h1 := hX.length_le
      have h2 := List.length_filter_le p xs
      simp only [List.length_append, List.length_singleton] at h1
      omega
    simp only at hrow X5 ⊢
    have hc := hv.cell
    have sc := hv.lt
    have k50 := X5.cell 0 (v := .int .i64 p1) rfl
    have k51 := X5.cell 1 (v := .int .i64 p2) rfl
    have k52 := X5.cell 2 (v := .int .i64 p3) rfl
    have s5 := X5.lt
    obtain ⟨A5, c5, rfl, -, -, -⟩ := hrow.rd
    have hrn := rd_newAt (e := 50) edgeE W (p1, p2, p3) W.heap.size rfl
    have Oa := hrow.alloc (.cells (edgeE.cs (p1, p2, p3)).toArray 50)
    have hva := hv.alloc (.cells (edgeE.cs (p1, p2, p3)).toArray 50)
    have hBa := hB.alloc hB.size (.cells (edgeE.cs (p1, p2, p3)).toArray 50)
    replace hrn := hide hrn
    replace Oa := hide Oa
    replace hva := hide hva
    replace hBa := hide hBa
    gi_wp2_with (gi_at_builtin; refine wpListIn_app1 tyEdge rfl (.tmp 8) (.tmp 10) rfl rfl Oa.out rfl hrn.out (by omega) (by have := hB.size; simp; omega) ?_)
    intro v' w9 hown hgr
    have hvb := hva.out.app Oa.out hgr (by decide)
    have hBb : Below w.heap.size w w9 := Own.below Oa.out hBa.out hgr (by have := hB.size; simp; omega)
    have hWb : Below w.heap.size W w9 := Own.below Oa.out ((Below.refl _ W).alloc hB.size _) hgr (by have := hB.size; simp; omega)
    have fb := hvb.free
    have cb9 := hvb.cell
    have sb := hvb.lt
    have hvc := hvb.set v'
    have hk9 : KeepsFrom w1.heap.size W w9 := ((KeepsOthers.alloc W _).from _).trans ((KeepsOthers.of_grownBy hgr (fun j o hj ho => by obtain ⟨cc, hcc⟩ := Oa.out.block j hj; have h9 := hcc.symm.trans ho; injection h9 with h9; subst h9; rfl)).from _)
    have hown2 := hown.set hvb (by decide) v'
    obtain ⟨A6, c6, rfl, -, -, -⟩ := hown.rd
    have hBs := hBb.setCell (p := ⟨sB, 0, none⟩) hle (.slice A6 (pre ++ [(p1, p2, p3)]).length c6)
    have hWs := hWb.setCell (p := ⟨sB, 0, none⟩) hle (.slice A6 (pre ++ [(p1, p2, p3)]).length c6)
    obtain ⟨l6, hl6⟩ : ∃ l, l = (pre ++ [(p1, p2, p3)]).length := ⟨_, rfl⟩
    rw [← hl6] at hvc hown2 hBs hWs ⊢
    replace hl6 := hide hl6
    replace hown2 := hide hown2
    replace hvc := hide hvc
    replace hBs := hide hBs
    replace hWs := hide hWs
    clear hown hvb hgr Oa hva hBa hBb hWb hc sc k50 k51 k52 s5 hrn hrow hv
    gi_wp2
    exact ⟨hk9.trans ((KeepsOthers.setCell _ _ _).from _), KpE.below hWs.out hfl, ⟨_, hvc.out, hown2.out⟩, hBs.out⟩
  case done =>
    rintro D s W hD rfl ⟨⟨v, hv, hrow⟩, hB⟩ hK
    have hc := hv.cell
    have sc := hv.lt
    obtain ⟨A5, c5, rfl, -, -, -⟩ := hrow.rd
    gi_wp2
    refine ⟨by simp, .inl ⟨_, _, rfl, run_takeDeferred hK, ?_⟩⟩
    exact ⟨_, results_tmp rfl _ _ _, _, rfl, Own.putObj hrow _ hK rfl, hB.trans (belowK_b (w := w) (Nat.le_refl _) W D _ _ (by omega) hK rfl rfl)⟩
  case stop =>
    rintro D c pre W _ _ h _
    exact h.elim
end Go.Proofs.Ytepgpiolhiidiaa
