/- lex.All. -/
import Derived.Test.YtlianjnmfgakkaaDoorLexJ
import Derived.Maps.OwnIn
import Derived.Test.YtlianjnmfgakkaaDoorMixW
namespace Go.Proofs.YtlianjnmfgakkaaDoor
open Go.RowKit Go.Shelf
attribute [local go_sem] Oper.semAt_some

section
variable {α : Type} {F : Fence} {nF : Nat} {P : Program} {E : El α} {t e : TypeId} {bytes base B : Nat} {w : World} {v : Value} {xs : List α} {y : α} {o : Oper} {a : Act} {Q : Exit → Act → World → Prop}
theorem wpListIn_app1 {ops : Array Oper} {rest : List Oper} (T : Ty P E t e bytes) (hgd : o.guard = none) (s x : Operand) (ho : o.op = .call { callee := .builtin .append, args := #[s, x], argTypes := #[t, t] })
    (hs : a.eval s = v) (hown : Own E e base w v xs) {ad : Addr} (hx : a.eval x = .slice (some ad) 1 1) (hr : Rd E B w (some ad) [y])
    (hlen : xs.length + 1 ≤ 100000000) (hbase : base ≤ w.heap.size)
    (h : ∀ v' w', Own E e base w' v' (xs ++ [y]) → w.grownBy w' v.ownBlock → wpListIn F nF P ops Q rest (a.put o.dst v') w') : wpListIn F nF P ops Q (o :: rest) a w := by
  obtain ⟨i, z, hi, hz, hsz, hby, hzs⟩ := T.info
  have hcells : ∀ j u, (E.cs y)[j]? = some u → w.cell? (ad.add j) = some u := by
    rcases hr with h | ⟨b, off, he, hr⟩
    · cases h
    · injection he with he
      subst he
      intro j u hu
      refine hr.cells j u ?_
      rw [El.row_one]; exact hu
  have hb2 : (xs.length + 1) * bytes ≤ 140737488355328 := Nat.le_trans (Nat.mul_le_mul hlen T.small) (by omega)
  refine wpListIn_append_own_at w hgd s x t ho base e i z E.sz bytes T.und hi hz hsz hby hzs E.pos v xs.length (E.row xs) hs hown ad 1 1 (E.cs y) hx (by rw [E.len]; omega) hcells (E.one y) (by simp only [maxLen]; omega) hb2 hbase ?_
  intro v' w' h1 h2 _ _
  refine h v' w' ?_ h2
  unfold Own
  rw [List.length_append, List.length_singleton, E.row_append, E.row_one]
  exact h1
end
theorem noncell_ne {A : World} {row : Option Nat} {b : Nat} {t : TypeId} {cs : Array Value} {fr : Nat × Nat} (h : A.heap[b]? = some (.cells cs t fr)) (hr : ∀ r, row = some r → ∃ o : Obj, A.heap[r]? = some o ∧ o.isCells = false) : some b ≠ row := by
  intro e
  obtain ⟨o, ho, hc⟩ := hr b e.symm
  rw [h] at ho
  injection ho with ho
  subst ho
  cases hc
theorem Own.noncell {α : Type} {E : El α} {e : TypeId} {base : Nat} {A B : World} {v : Value} {xs : List α} {row : Option Nat} (h : Own E e base A v xs) (hg : A.grownBy B row) (hr : ∀ r, row = some r → ∃ o : Obj, A.heap[r]? = some o ∧ o.isCells = false) : Own E e base B v xs := by
  refine h.kept hg ?_
  cases hv : v.ownBlock with
  | none => exact .inl rfl
  | some k =>
    obtain ⟨c, hc⟩ := h.block k hv
    exact .inr (noncell_ne hc hr)
theorem Own.putObj {α : Type} {E : El α} {e : TypeId} {base : Nat} {A : World} {v : Value} {xs : List α} (h : Own E e base A v xs) {D : Nat} {o : Obj} (o' : Obj) (hD : A.heap[D]? = some o) (ho : o.isCells = false) : Own E e base (A.putObj D o') v xs :=
  h.noncell (grownBy_putObj' A D o') (fun r e => by cases e; exact ⟨o, hD, ho⟩)
theorem keeps_ext {B : Nat} {A C : World} (h : Ext A C) : KeepsFrom B A C := ⟨h.size, fun k o _ hk _ => (h.block k (Array.getElem?_eq_some_iff.1 hk).1).trans hk⟩
theorem results_cell111 {P : Program} {fn : Func} {p q r : Tmp} {ta tb tc : TypeId} (h : fn.results = #[.cell p ta, .cell q tb, .cell r tc]) (tmps : Array Value) (w : World) (a b c : Nat) (v1 v2 v3 : Value)
    (hp : tmps.getD p undef = .pointer (some ⟨a, 0, none⟩)) (hq : tmps.getD q undef = .pointer (some ⟨b, 0, none⟩)) (hr : tmps.getD r undef = .pointer (some ⟨c, 0, none⟩))
    (h1 : (loadVar ta ⟨a, 0, none⟩).run P w = .ok v1 w) (h2 : (loadVar tb ⟨b, 0, none⟩).run P w = .ok v2 w) (h3 : (loadVar tc ⟨c, 0, none⟩).run P w = .ok v3 w) :
    (results fn tmps).run P w = .ok (.tuple #[v1, v2, v3]) w := by
  have hp' : tmps[p]?.getD undef = .pointer (some ⟨a, 0, none⟩) := by simpa using hp
  have hq' : tmps[q]?.getD undef = .pointer (some ⟨b, 0, none⟩) := by simpa using hq
  have hr' : tmps[r]?.getD undef = .pointer (some ⟨c, 0, none⟩) := by simpa using hr
  simp only [results, h]
  simp [Sem.run_bind, Result.andThen, hp', hq', hr', asAddr, h1, h2, h3]
theorem Box.put {W : World} {b D : Nat} {t : TypeId} {v : Value} {o : Obj} (h : Box W b t v) (hK : W.heap[D]? = some o) (ho : o.isCells = false) (o' : Obj) : (W.putObj D o').cell? ⟨b, 0, none⟩ = some v ∧ b < (W.putObj D o').heap.size := by
  have h1 : Box (W.putObj D o') b t v := h.grown (grownBy_putObj' W D o') (noncell_ne h (fun r e => by cases e; exact ⟨o, hK, ho⟩))
  exact ⟨h1.cell, h1.lt⟩
theorem load34 (W : World) (b : Nat) (v : Value) (h : W.cell? ⟨b, 0, none⟩ = some v ∧ b < W.heap.size) : (loadVar 34 ⟨b, 0, none⟩).run Tryd.prog W = .ok v W := by
  obtain ⟨h1, h2⟩ := h
  go_simp
theorem load3 (W : World) (b : Nat) (v : Value) (h : W.cell? ⟨b, 0, none⟩ = some v ∧ b < W.heap.size) : (loadVar 3 ⟨b, 0, none⟩).run Tryd.prog W = .ok v W := by
  obtain ⟨h1, h2⟩ := h
  go_simp
theorem load30 (W : World) (b : Nat) (v : Value) (h : W.cell? ⟨b, 0, none⟩ = some v ∧ b < W.heap.size) : (loadVar 30 ⟨b, 0, none⟩).run Tryd.prog W = .ok v W := by
  obtain ⟨h1, h2⟩ := h
  go_simp
theorem keeps_drew {B : Nat} (W : World) : KeepsFrom B W W.drew := ⟨Nat.le_refl _, fun _ _ _ h _ => h⟩
theorem boxN_ne {W : World} {a b : Nat} {t u : TypeId} {cs : Array Value} {v : Value} (h : BoxN W a t cs) (k : Box W b u v) (hne : t ≠ u) : a ≠ b := by
  intro e
  subst e
  unfold BoxN at h
  unfold Box at k
  rw [h] at k
  injection k with k
  injection k with _ k
  exact hne k
def toks (l : List Fnd) : List Tok := l.map (·.1)
theorem toks_snoc (l : List Fnd) (x : Fnd) : toks (l ++ [x]) = toks l ++ [x.1] := by simp [toks]
theorem all_done {s : ByteArray} {l : List Fnd} (h : l = fnd s 0) (h0 : ∀ x ∈ l, x.2.2 = 0) : allN s = (toks l, s.size, 0) := by
  unfold allN runN
  rw [← h, gather_ok l s.size h0]
  rfl
theorem all_stop {s : ByteArray} {ds : List Fnd} {x : Fnd} (h : ds ++ [x] <+: fnd s 0) (h0 : ∀ y ∈ ds, y.2.2 = 0) (hx : x.2.2 ≠ 0) : allN s = ([], x.2.1, x.2.2) := by
  obtain ⟨r, hr⟩ := h
  unfold allN runN
  rw [← hr, List.append_assoc]
  exact gather_err ds r x s.size h0 hx
set_option maxRecDepth 100000 in
set_option maxHeartbeats 4000000 in
theorem all_any (s : ByteArray) (hm : s.size ≤ 1000000) (w : World) (hU : LaidU w) :
    Calls Tryd.prog 15 #[.string s] w fun e w' => ∃ A n c, e = .returned (.tuple #[.slice A n c, .int .i64 ((allN s).2.1 : Int), .int .i64 (allN s).2.2]) ∧ Own tokE 29 w.heap.size w' (.slice A n c) (allN s).1 ∧ Ext w w' := by
  refine (callsIn_wide (n := 10)).1 ?_
  refine callsIn_of_wp_marks Tryd.func15 rfl trivial ?_ rfl
  simp only [Tryd.ntmps15, List.size_toArray, List.length_cons, List.length_nil, Nat.reduceAdd, Nat.reduceSub, Array.replicate_succ, Array.replicate_zero, List.push_toArray, List.append_toArray, List.nil_append, List.cons_append]
  replace hU := hide hU
  gi_wp2_with fail
  obtain ⟨wa, hwa⟩ : ∃ x, x = w.alloc (.cells #[.slice none 0 0] 34) := ⟨_, rfl⟩
  obtain ⟨wb, hwb⟩ : ∃ x, x = wa.alloc (.cells #[.int .i64 0] 3) := ⟨_, rfl⟩
  obtain ⟨wc, hwc⟩ : ∃ x, x = wb.alloc (.cells #[.int .i64 0] 30) := ⟨_, rfl⟩
  obtain ⟨w1, hw1⟩ : ∃ x, x = wc.alloc (.cells #[.slice none 0 0] 34) := ⟨_, rfl⟩
  rw [← hwa, ← hwb, ← hwc, ← hw1]
  have za : wa.heap.size = w.heap.size + 1 := by rw [hwa]; simp
  have zb : wb.heap.size = w.heap.size + 1 + 1 := by rw [hwb]; simp [za]
  have zc : wc.heap.size = w.heap.size + 1 + 1 + 1 := by rw [hwc]; simp [zb]
  have B2 : Box w1 w.heap.size 34 (.slice none 0 0) := by
    rw [hw1, hwc, hwb, hwa]
    exact (((Box.new w _ _).alloc _).alloc _).alloc _
  have B3 : Box w1 (w.heap.size + 1) 3 (.int .i64 0) := by
    rw [hw1, hwc, hwb, ← za]
    exact ((Box.new wa _ _).alloc _).alloc _
  have B4 : Box w1 (w.heap.size + 1 + 1) 30 (.int .i64 0) := by
    rw [hw1, hwc, ← zb]
    exact (Box.new wb _ _).alloc _
  have B5 : Box w1 (w.heap.size + 1 + 1 + 1) 34 (.slice none 0 0) := by
    rw [hw1, ← zc]
    exact Box.new wc _ _
  have hE1 : Ext w w1 := by
    rw [hw1, hwc, hwb, hwa]
    exact ((((Below.refl _ w).alloc (Nat.le_refl _) _).alloc (by simp) _).alloc (by simp; omega) _).alloc (by simp; omega) _
  clear hw1 hwc hwb hwa za zb zc
  obtain ⟨b2, hb2⟩ : ∃ b, b = w.heap.size := ⟨_, rfl⟩
  obtain ⟨b3, hb3⟩ : ∃ b, b = b2 + 1 := ⟨_, rfl⟩
  obtain ⟨b4, hb4⟩ : ∃ b, b = b3 + 1 := ⟨_, rfl⟩
  obtain ⟨b5, hb5⟩ : ∃ b, b = b4 + 1 := ⟨_, rfl⟩
  rw [← hb2, ← hb3] at B3
  rw [← hb2, ← hb3, ← hb4] at B4
  rw [← hb2, ← hb3, ← hb4, ← hb5] at B5
  rw [← hb2] at B2
  rw [← hb2, ← hb3, ← hb4, ← hb5]
  have l2 : w.heap.size ≤ b2 := by omega
  have l3 : w.heap.size ≤ b3 := by omega
  have l4 : w.heap.size ≤ b4 := by omega
  have l5 : w.heap.size ≤ b5 := by omega
  have n23 : b2 ≠ b3 := by omega
  have n24 : b2 ≠ b4 := by omega
  have n25 : b2 ≠ b5 := by omega
  have n34 : b3 ≠ b4 := by omega
  have n35 : b3 ≠ b5 := by omega
  have n45 : b4 ≠ b5 := by omega
  clear hb2 hb3 hb4 hb5
  refine ⟨trivial, (callsIn_wide.2 (tokens_any s _)).mono ?_⟩
  rintro e w2 ⟨rfl, hw2⟩
  have hE2 : Ext w1 w2 := by rw [hw2]; exact (Below.refl _ _).alloc (Nat.le_refl _) _
  have hcs2 : w2.cell? ⟨w1.heap.size, 0, none⟩ = some (.string s) := by rw [hw2]; simp [World.cell?_alloc_new]
  have BS : Box w2 w1.heap.size 9 (.string s) := by rw [hw2]; exact Box.new _ _ _
  clear hw2
  obtain ⟨sB, hsB⟩ : ∃ x, x = w1.heap.size := ⟨_, rfl⟩
  rw [← hsB] at hcs2 BS ⊢
  clear hsB
  have hB2 := hE1.trans (hE2.mono hE1.size)
  replace B2 := B2.ext hE2
  replace B3 := B3.ext hE2
  replace B4 := B4.ext hE2
  replace B5 := B5.ext hE2
  clear hE1 hE2
  have hs2 := hB2.size
  have hsl := cell_lt hcs2
  have l5' := B5.lt
  have n5s : b5 ≠ sB := by
    intro e
    subst e
    have h1 := B5.cell
    rw [hcs2] at h1
    cases h1
  have n3s : b3 ≠ sB := by
    intro e
    subst e
    have h1 := B3.cell
    rw [hcs2] at h1
    cases h1
  gi_wp2_with fail
  refine rangeS rfl (by decide) (gf := 58) (lb := #[.pointer (some ⟨sB, 0, none⟩)]) rfl trivial (enters_of Tryd.func58 (by kernel_rfl) rfl)
    (tokens_seq 9 sB s w w2 hB2 hcs2 hU.out hm) (fun h k => h.trans k) (fun W l o o' h1 _ _ _ => KpS.turn hs2 (cell_lt hcs2) W l o' h1) (fun _ _ => trivial) (fun _ _ => trivial) (fun s x _ _ _ hs _ _ => hs) (Below.refl _ _) (fun _ => rfl)
    (fun (pre : List Fnd) W => ((∃ v, Box W b5 34 v ∧ Own tokE 29 w.heap.size W v (toks pre)) ∧ Box W b2 34 (.slice none 0 0) ∧ Box W b3 3 (.int .i64 0) ∧ Box W b4 30 (.int .i64 0) ∧ Box W sB 9 (.string s) ∧ ∀ x ∈ pre, x.2.2 = 0) ∧ Below w.heap.size w W)
    (fun cd (pre : List Fnd) W => (cd = .ret ∧ ∃ (ds : List Fnd) (x : Fnd), pre = ds ++ [x] ∧ (∀ y ∈ ds, y.2.2 = 0) ∧ x.2.2 ≠ 0 ∧ Box W b2 34 (.slice none 0 0) ∧ Box W b3 3 (.int .i64 (x.2.1 : Int)) ∧ Box W b4 30 (.int .i64 x.2.2)) ∧ Below w.heap.size w W)
    (OwnFrom.and (Own.from (fun sx A B row hs hg hr => by obtain ⟨⟨v, h1, h2⟩, h3, h4, h5, h7, h6⟩ := hs; exact ⟨⟨v, h1.grown hg (noncell_ne h1 hr), h2.noncell hg hr⟩, h3.grown hg (noncell_ne h3 hr), h4.grown hg (noncell_ne h4 hr), h5.grown hg (noncell_ne h5 hr), h7.grown hg (noncell_ne h7 hr), h6⟩) _) (ownFrom_below (Nat.le_refl _) hs2))
    (fun cd => OwnFrom.and (Own.from (fun sx A B row hs hg hr => by obtain ⟨h1, ds, x, h2, h3, h4, h5, h6, h7⟩ := hs; exact ⟨h1, ds, x, h2, h3, h4, h5.grown hg (noncell_ne h5 hr), h6.grown hg (noncell_ne h6 hr), h7.grown hg (noncell_ne h7 hr)⟩) _) (ownFrom_below (Nat.le_refl _) hs2))
    ⟨⟨⟨_, B5, Own.nil_⟩, B2, B3, B4, BS, fun x hx => by cases hx⟩, hB2⟩
    (fun _ _ => trivial)
    (fun (x : Fnd) b W => ∃ p6, BoxN W p6 59 #[.int .i64 x.1.kind, .int .i64 x.1.pl, .string x.1.text, .bool x.1.glued, .int .i64 (x.2.1 : Int), .int .i64 x.2.2] ∧
      b = { tmps := #[.string s, undef, .pointer (some ⟨b2, 0, none⟩), .pointer (some ⟨b3, 0, none⟩), .pointer (some ⟨b4, 0, none⟩), .pointer (some ⟨b5, 0, none⟩), .pointer (some ⟨p6, 0, none⟩), .string s, .func (.func 58) #[] #[.pointer (some ⟨sB, 0, none⟩)], fndV x, undef, undef, undef, undef, undef, undef, undef, undef, undef, undef, undef, undef, undef, undef, undef], defers := [] })
    (fun x b A B row h hg hr => by obtain ⟨p6, h1, h2⟩ := h; exact ⟨p6, h1.grown hg (noncell_ne h1 (fun r e => (hr r e).2)), h2⟩)
    (fun A B hA hg => KpS.below (grown_none hg) (Nat.le_trans hs2 hA) (Nat.lt_of_lt_of_le (cell_lt hcs2) hA)) ?assign ?body ?done ?stop
  case assign =>
    intro l x W K hK
    dsimp only [fndV]
    gi_wp2
    exact hK _ _ (World.grownBy_alloc W _ none) ⟨W.heap.size, BoxN.new _ _ _, rfl⟩
  case body =>
    rintro l pre ⟨⟨k, pl, tx, gl⟩, q, er⟩ W b ⟨⟨⟨v, hv, hrow⟩, P2, P3, P4, PS, hall⟩, hB⟩ hX ⟨p6, X6, rfl⟩
    simp only at X6
    have k60 := X6.cell 0 (v := .int .i64 k) rfl
    have k61 := X6.cell 1 (v := .int .i64 pl) rfl
    have k62 := X6.cell 2 (v := .string tx) rfl
    have k63 := X6.cell 3 (v := .bool gl) rfl
    have k64 := X6.cell 4 (v := .int .i64 (q : Int)) rfl
    have k65 := X6.cell 5 (v := .int .i64 er) rfl
    have s6 := X6.lt
    have hc := hv.cell
    have sc := hv.lt
    have hlen : pre.length ≤ 1000000 := Nat.le_trans hX hm
    have hWs : w.heap.size ≤ W.heap.size := hB.size
    by_cases he : er = 0
    · subst he
      obtain ⟨A5, c5, rfl, -, -, -⟩ := hrow.rd
      have hrn := rd_newAt (e := 29) tokE W ⟨k, pl, tx, gl⟩ W.heap.size rfl
      have Oa := hrow.alloc (.cells (tokE.cs ⟨k, pl, tx, gl⟩).toArray 29)
      have hva := hv.alloc (.cells (tokE.cs ⟨k, pl, tx, gl⟩).toArray 29)
      have h2a := P2.alloc (.cells (tokE.cs ⟨k, pl, tx, gl⟩).toArray 29)
      have h3a := P3.alloc (.cells (tokE.cs ⟨k, pl, tx, gl⟩).toArray 29)
      have h4a := P4.alloc (.cells (tokE.cs ⟨k, pl, tx, gl⟩).toArray 29)
      have hBa := hB.alloc hB.size (.cells (tokE.cs ⟨k, pl, tx, gl⟩).toArray 29)
      have htl : (toks pre).length ≤ 1000000 := by simp [toks]; exact hlen
      replace hrn := hide hrn
      replace Oa := hide Oa
      replace hva := hide hva
      replace h2a := hide h2a
      replace h3a := hide h3a
      replace h4a := hide h4a
      replace hBa := hide hBa
      replace hB := hide hB
      gi_wp2_with (gi_at_builtin; refine wpListIn_app1 tyTok rfl (.tmp 17) (.tmp 20) rfl rfl Oa.out rfl hrn.out (by omega) (by simp; omega) ?_)
      intro v' w9 hown hgr
      have hvb := hva.out.app Oa.out hgr (by decide)
      have h2b := h2a.out.app Oa.out hgr (by decide)
      have h3b := h3a.out.app Oa.out hgr (by decide)
      have h4b := h4a.out.app Oa.out hgr (by decide)
      have hBb : Below w.heap.size w w9 := Own.below Oa.out hBa.out hgr (by simp; omega)
      have hWb : Below w.heap.size W w9 := Own.below Oa.out ((Below.refl _ W).alloc hWs _) hgr (by simp; omega)
      have fb := hvb.free
      have cb9 := hvb.cell
      have sb := hvb.lt
      have hvc := hvb.set v'
      have h2c := h2b.far (p := ⟨b5, 0, none⟩) n25 v'
      have h3c := h3b.far (p := ⟨b5, 0, none⟩) n35 v'
      have h4c := h4b.far (p := ⟨b5, 0, none⟩) n45 v'
      have hk9 : KeepsFrom w2.heap.size W w9 := ((KeepsOthers.alloc W _).from _).trans ((KeepsOthers.of_grownBy hgr (fun j o hj ho => by obtain ⟨cc, hcc⟩ := Oa.out.block j hj; have h9 := hcc.symm.trans ho; injection h9 with h9; subst h9; rfl)).from _)
      have hown2 := hown.set hvb (by decide) v'
      have hsb := (PS.alloc (.cells (tokE.cs ⟨k, pl, tx, gl⟩).toArray 29)).app Oa.out hgr (by decide)
      have hsc := hsb.far (p := ⟨b5, 0, none⟩) (Ne.symm n5s) v'
      have hks : ∀ o, W.heap[sB]? = some o → (w9.setCell ⟨b5, 0, none⟩ v').heap[sB]? = some o := fun o ho => hsc.trans (PS.symm.trans ho)
      have hWs2 := hWb.setCell (p := ⟨b5, 0, none⟩) l5 v'
      have hBs2 := hBb.setCell (p := ⟨b5, 0, none⟩) l5 v'
      obtain ⟨A6, c6, rfl, -, -, -⟩ := hown.rd
      have htk : toks pre ++ [(⟨k, pl, tx, gl⟩ : Tok)] = toks (pre ++ [(⟨k, pl, tx, gl⟩, q, (0 : Int))]) := (toks_snoc pre ((⟨k, pl, tx, gl⟩ : Tok), q, (0 : Int))).symm
      obtain ⟨l6, hl6⟩ : ∃ l, l = (toks pre ++ [(⟨k, pl, tx, gl⟩ : Tok)]).length := ⟨_, rfl⟩
      rw [← hl6] at hvc hown2 h2c h3c h4c hsc hks hWs2 hBs2 ⊢
      rw [htk] at hown2
      have hall2 : ∀ x ∈ pre ++ [((⟨k, pl, tx, gl⟩ : Tok), q, (0 : Int))], x.2.2 = 0 := fun x hx => by
        rcases List.mem_append.1 hx with h | h
        · exact hall x h
        · rw [List.mem_singleton] at h; subst h; rfl
      replace hl6 := hide hl6
      replace hown2 := hide hown2
      replace hvc := hide hvc
      replace h2c := hide h2c
      replace h3c := hide h3c
      replace h4c := hide h4c
      replace hsc := hide hsc
      replace hks := hide hks
      replace hWs2 := hide hWs2
      replace hBs2 := hide hBs2
      replace hall2 := hide hall2
      replace hk9 := hide hk9
      clear hown hvb hgr Oa hva hBa hBb hWb hc sc k60 k61 k62 k63 k64 k65 s6 hrn hrow hv h2a h3a h4a h2b h3b h4b hsb hB PS P2 P3 P4 hall
      gi_wp2
      exact ⟨hk9.out.trans ((KeepsOthers.setCell _ _ _).from _), ⟨hWs2.out, hks.out⟩, ⟨⟨_, hvc.out, hown2.out⟩, h2c.out, h3c.out, h4c.out, hsc.out, hall2.out⟩, hBs2.out⟩
    · have he1 : (er == 0) = false := beq_eq_false_iff_ne.2 he
      have he2 : (er != 0) = true := by rw [bne, he1]; rfl
      have n62 : p6 ≠ b2 := boxN_ne X6 P2 (by decide)
      have n63 : p6 ≠ b3 := boxN_ne X6 P3 (by decide)
      have n64 : p6 ≠ b4 := boxN_ne X6 P4 (by decide)
      have X6' := hide X6
      have R2 := hide (((P2.drew.set (.slice none 0 0)).far (p := ⟨b3, 0, none⟩) n23 (.int .i64 (q : Int))).far (p := ⟨b4, 0, none⟩) n24 (.int .i64 er))
      have R3 := hide (((P3.drew.far (p := ⟨b2, 0, none⟩) (Ne.symm n23) (.slice none 0 0)).set (.int .i64 (q : Int))).far (p := ⟨b4, 0, none⟩) n34 (.int .i64 er))
      have R4 := hide (((P4.drew.far (p := ⟨b2, 0, none⟩) (Ne.symm n24) (.slice none 0 0)).far (p := ⟨b3, 0, none⟩) (Ne.symm n34) (.int .i64 (q : Int))).set (.int .i64 er))
      have RB := hide (((hB.drew.setCell (p := ⟨b2, 0, none⟩) l2 (.slice none 0 0)).setCell (p := ⟨b3, 0, none⟩) l3 (.int .i64 (q : Int))).setCell (p := ⟨b4, 0, none⟩) l4 (.int .i64 er))
      have RK : Hid (KeepsFrom w2.heap.size W (((W.drew.setCell ⟨b2, 0, none⟩ (.slice none 0 0)).setCell ⟨b3, 0, none⟩ (.int .i64 (q : Int))).setCell ⟨b4, 0, none⟩ (.int .i64 er))) := hide (((keeps_drew W).trans ((KeepsOthers.setCell W.drew _ _).from _)).trans (((KeepsOthers.setCell _ _ _).from _).trans ((KeepsOthers.setCell _ _ _).from _)))
      have Y0 := hide X6.drew
      have Y1 := hide (X6.drew.far (p := ⟨b2, 0, none⟩) n62 (.slice none 0 0))
      have Y2 := hide ((X6.drew.far (p := ⟨b2, 0, none⟩) n62 (.slice none 0 0)).far (p := ⟨b3, 0, none⟩) n63 (.int .i64 (q : Int)))
      have Y3 := hide (((X6.drew.far (p := ⟨b2, 0, none⟩) n62 (.slice none 0 0)).far (p := ⟨b3, 0, none⟩) n63 (.int .i64 (q : Int))).far (p := ⟨b4, 0, none⟩) n64 (.int .i64 er))
      have g2 := P2.drew
      have g3 := P3.drew
      have g4 := P4.drew
      obtain ⟨wl, hwl⟩ : ∃ z, z = W.drew := ⟨_, rfl⟩
      rw [← hwl] at R2 R3 R4 RB RK Y0 Y1 Y2 Y3 g2 g3 g4
      have c2 := g2.cell
      have c3 := g3.cell
      have c4 := g4.cell
      have f2 := g2.free
      have f3 := g3.free
      have f4 := g4.free
      have m2 := g2.lt
      have m3 := g3.lt
      have m4 := g4.lt
      replace g2 := hide g2
      replace g3 := hide g3
      replace g4 := hide g4
      gi_wp2_with fail
      refine wp_region_mixR (fun W => BoxN W p6 59 #[.int .i64 k, .int .i64 pl, .string tx, .bool gl, .int .i64 (q : Int), .int .i64 er]) [(0, true), (1, true), (2, true), (3, true), (4, false), (5, false), (6, false)] (by kernel_rfl) (by kernel_rfl) (by kernel_rfl) (by kernel_rfl) (by kernel_rfl) (fun _ _ d _ _ h => by cases d <;> exact h) X6'.out.drew ?_
      iterate 4
        apply mixW_q rfl rfl
        · intro W' hW
          have q4 := hW.cell 4 (v := .int .i64 (q : Int)) rfl
          have q5 := hW.cell 5 (v := .int .i64 er) rfl
          have qs := hW.lt
          go_simp
          try exact rfl
        simp only [Act.put, List.setIfInBounds_toArray, List.set_cons_zero, List.set_cons_succ]
      rw [← hwl]
      clear hwl k60 k61 k62 k63 k64 k65 s6 hc sc hv hrow P2 P3 P4 PS hB
      refine mixW_w rfl rfl (fun K hK => ?_)
      go_simp
      refine hK _ _ Y1.out ?_
      clear hK K
      try simp only [Act.put, List.setIfInBounds_toArray, List.set_cons_zero, List.set_cons_succ]
      refine mixW_w rfl rfl (fun K hK => ?_)
      go_simp
      refine hK _ _ Y2.out ?_
      clear hK K
      try simp only [Act.put, List.setIfInBounds_toArray, List.set_cons_zero, List.set_cons_succ]
      refine mixW_w rfl rfl (fun K hK => ?_)
      go_simp
      refine hK _ _ Y3.out ?_
      clear hK K
      try simp only [Act.put, List.setIfInBounds_toArray, List.set_cons_zero, List.set_cons_succ]
      refine mixW_nil ?_
      gi_wp2
      exact ⟨RK.out, trivial, ⟨rfl, pre, _, rfl, hall, he, R2.out, R3.out, R4.out⟩, RB.out⟩
  case done =>
    rintro D xs W hD hxs ⟨⟨⟨v, hv, hrow⟩, P2, P3, P4, PS, hall⟩, hB⟩ hK
    have hv0 := all_done hxs hall
    have hz : (fnd s 0).length ≤ s.size + 1 := fnd_le s _ 0 (Nat.zero_le _) (Nat.le_refl _)
    have hc := hv.cell
    have sc := hv.lt
    obtain ⟨A5, c5, rfl, -, -, -⟩ := hrow.rd
    have f2 := P2.free
    have f3 := P3.free
    have f4 := P4.free
    have c2 := P2.cell
    have c3 := P3.cell
    have c4 := P4.cell
    have m2 := P2.lt
    have m3 := P3.lt
    have m4 := P4.lt
    have R2 := ((P2.set (.slice A5 (toks xs).length c5)).far (p := ⟨b3, 0, none⟩) n23 (.int .i64 (s.size : Int))).far (p := ⟨b4, 0, none⟩) n24 (.int .i64 0)
    have R3 := ((P3.far (p := ⟨b2, 0, none⟩) (Ne.symm n23) (.slice A5 (toks xs).length c5)).set (.int .i64 (s.size : Int))).far (p := ⟨b4, 0, none⟩) n34 (.int .i64 0)
    have R4 := ((P4.far (p := ⟨b2, 0, none⟩) (Ne.symm n24) (.slice A5 (toks xs).length c5)).far (p := ⟨b3, 0, none⟩) (Ne.symm n34) (.int .i64 (s.size : Int))).set (.int .i64 0)
    have RB := ((hB.setCell (p := ⟨b2, 0, none⟩) l2 (.slice A5 (toks xs).length c5)).setCell (p := ⟨b3, 0, none⟩) l3 (.int .i64 (s.size : Int))).setCell (p := ⟨b4, 0, none⟩) l4 (.int .i64 0)
    have RO := ((hrow.set P2 (by decide) (.slice A5 (toks xs).length c5)).set (P3.far (p := ⟨b2, 0, none⟩) (Ne.symm n23) (.slice A5 (toks xs).length c5)) (by decide) (.int .i64 (s.size : Int))).set ((P4.far (p := ⟨b2, 0, none⟩) (Ne.symm n24) (.slice A5 (toks xs).length c5)).far (p := ⟨b3, 0, none⟩) (Ne.symm n34) (.int .i64 (s.size : Int))) (by decide) (.int .i64 0)
    obtain ⟨l6, hl6⟩ : ∃ l, l = (toks xs).length := ⟨_, rfl⟩
    have hmx : s.size ≤ maxLen := by have : 1000000 ≤ maxLen := by decide
                                     omega
    rw [← hl6] at R2 R3 R4 RB RO hc
    replace hl6 := hide hl6
    replace R2 := hide R2
    replace R3 := hide R3
    replace R4 := hide R4
    replace RB := hide RB
    replace RO := hide RO
    replace P2 := hide P2
    replace P3 := hide P3
    replace P4 := hide P4
    replace hv0 := hide hv0
    have hd2 : D ≠ b2 := by have := B2.lt; omega
    have hd3 : D ≠ b3 := by have := B3.lt; omega
    have hd4 : D ≠ b4 := by have := B4.lt; omega
    have hK2 := hide ((Below.heap_setCell ((W.setCell ⟨b2, 0, none⟩ (.slice A5 l6 c5)).setCell ⟨b3, 0, none⟩ (.int .i64 (s.size : Int))) ⟨b4, 0, none⟩ (.int .i64 0) D hd4).trans ((Below.heap_setCell (W.setCell ⟨b2, 0, none⟩ (.slice A5 l6 c5)) ⟨b3, 0, none⟩ (.int .i64 (s.size : Int)) D hd3).trans ((Below.heap_setCell W ⟨b2, 0, none⟩ (.slice A5 l6 c5) D hd2).trans hK)))
    have hD2 : w.heap.size ≤ D := Nat.le_trans hs2 hD
    clear hv hrow hxs hall hB hz hK
    gi_wp2
    try rw [Exit.noGoto_ret]
    refine ⟨by simp, .inl ⟨_, _, rfl, run_takeDeferred hK2.out, ?_⟩⟩
    refine ⟨_, results_cell111 rfl _ _ b2 b3 b4 _ _ _ rfl rfl rfl (load34 _ _ _ (R2.out.put hK2.out rfl _)) (load3 _ _ _ (R3.out.put hK2.out rfl _)) (load30 _ _ _ (R4.out.put hK2.out rfl _)), A5, l6, c5, ?_, ?_, RB.out.trans (belowK_b (w := w) (Nat.le_refl _) _ D _ _ hD2 hK2.out rfl rfl)⟩
    · rw [hv0.out]
    · rw [hv0.out]
      exact Own.putObj RO.out _ hK2.out rfl
  case stop =>
    rintro D c pre W hD hpre ⟨⟨rfl, ds, x, rfl, hds, hx, P2, P3, P4⟩, hB⟩ hK
    have hv0 := all_stop hpre hds hx
    have c2 := P2.cell
    have c3 := P3.cell
    have c4 := P4.cell
    have m2 := P2.lt
    have m3 := P3.lt
    have m4 := P4.lt
    replace hv0 := hide hv0
    have hD2 : w.heap.size ≤ D := Nat.le_trans hs2 hD
    gi_wp2
    try rw [Exit.noGoto_ret]
    refine ⟨by simp, .inl ⟨_, _, rfl, run_takeDeferred hK, ?_⟩⟩
    refine ⟨_, results_cell111 rfl _ _ b2 b3 b4 _ _ _ rfl rfl rfl (load34 _ _ _ (P2.put hK rfl _)) (load3 _ _ _ (P3.put hK rfl _)) (load30 _ _ _ (P4.put hK rfl _)), none, 0, 0, ?_, ?_, hB.trans (belowK_b (w := w) (Nat.le_refl _) _ D _ _ hD2 hK rfl rfl)⟩
    · rw [hv0.out]
    · rw [hv0.out]
      exact Own.nil_
end Go.Proofs.YtlianjnmfgakkaaDoor
