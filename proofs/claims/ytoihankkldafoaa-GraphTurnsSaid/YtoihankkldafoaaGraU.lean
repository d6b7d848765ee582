/- graph.Filter asked with GraphTurns' function, which appends to a row of its own. -/
import Derived.Test.YtoihankkldafoaaGraX
namespace Go.Proofs.Ytoihankkldafoaa
open Go.RowKit Go.Shelf
attribute [local go_sem] Oper.semAt_some

section
variable {α : Type} {F : Fence} {nF : Nat} {P : Program} {E : El α} {t e : TypeId} {bytes base B : Nat} {w : World} {v : Value} {xs : List α} {y : α} {o : Oper} {a : Act} {Q : Exit → Act → World → Prop}
theorem wpListIn_app2 {ops : Array Oper} {rest : List Oper} (T : Ty P E t e bytes) (hgd : o.guard = none) (s x : Operand) (ho : o.op = .call { callee := .builtin .append, args := #[s, x], argTypes := #[t, t] })
    (hs : a.eval s = v) (hown : Own E e base w v xs) {ad : Addr} (hx : a.eval x = .slice (some ad) 1 1) (hr : Rd E B w (some ad) [y])
    (hlen : xs.length + 1 ≤ 100000000) (hbase : base ≤ w.heap.size)
    (h : ∀ v' w', Own E e base w' v' (xs ++ [y]) → w.grownBy w' v.ownBlock → (v'.ownBlock = v.ownBlock ∨ v'.ownBlock = some w.heap.size) → wpListIn F nF P ops Q rest (a.put o.dst v') w') : wpListIn F nF P ops Q (o :: rest) a w := by
  obtain ⟨i, z, hi, hz, hsz, hby, hzs⟩ := T.info
  have hcells : ∀ j u, (E.cs y)[j]? = some u → w.cell? (ad.add j) = some u := by
    rcases hr with h | ⟨b, off, he, hr⟩
    · cases h
    · injection he with he
      subst he
      intro j u hu
      refine hr.cells j u ?_
      rw [El.row_one]; exact hu
  have hb2 : (xs.length + 1) * bytes ≤ 140737488355328 := Nat.le_trans (Nat.mul_le_mul hlen T.small) (by omega)
  refine wpListIn_append_own_at w hgd s x t ho base e i z E.sz bytes T.und hi hz hsz hby hzs E.pos v xs.length (E.row xs) hs hown ad 1 1 (E.cs y) hx (by rw [E.len]; omega) hcells (E.one y) (by simp only [maxLen]; omega) hb2 hbase ?_
  intro v' w' h1 h2 _ h4
  refine h v' w' ?_ h2 h4
  unfold Own
  rw [List.length_append, List.length_singleton, E.row_append, E.row_one]
  exact h1
end
theorem grown_ext {w A B : World} {r : Option Nat} (h : w.grownBy A r) (hE : Ext A B) : w.grownBy B r := grown_trans2 h ⟨hE.os, hE.tape, hE.output, hE.size, fun k hk _ => hE.block k hk⟩
theorem grown_own {α : Type} {E : El α} {e : TypeId} {base : Nat} {w A B : World} {r : Option Nat} {v : Value} {xs : List α} (h : w.grownBy A r) (hO : Own E e base A v xs) (hb : w.heap.size ≤ base) (hg : A.grownBy B v.ownBlock) : w.grownBy B r :=
  ⟨hg.os.trans h.os, hg.tape.trans h.tape, hg.output.trans h.output, Nat.le_trans h.size hg.size, fun k hk hne => (hg.block k (Nat.lt_of_lt_of_le hk h.size) (fun e => by have := (hO.lt k e.symm).1; omega)).trans (h.block k hk hne)⟩
theorem grown_set {w A : World} {a : Nat} {u : Value} (h : w.grownBy A (some a)) : w.grownBy (A.setCell ⟨a, 0, none⟩ u) (some a) :=
  ⟨h.os, h.tape, h.output, by show _ ≤ (A.heap.modify _ _).size; rw [Array.size_modify]; exact h.size, fun k hk hne => (Below.heap_setCell A ⟨a, 0, none⟩ u k (fun e => hne (by rw [e]))).trans (h.block k hk hne)⟩
theorem grown_far {w A : World} {r : Option Nat} {b : Nat} {u : Value} (h : w.grownBy A r) (hb : w.heap.size ≤ b) : w.grownBy (A.setCell ⟨b, 0, none⟩ u) r :=
  ⟨h.os, h.tape, h.output, by show _ ≤ (A.heap.modify _ _).size; rw [Array.size_modify]; exact h.size, fun k hk hne => (Below.heap_setCell A ⟨b, 0, none⟩ u k (by show k ≠ b; omega)).trans (h.block k hk hne)⟩
def leK (kind : Int) (x : Int × Int × Int) : Bool := decide (x.2.2 ≤ kind)
set_option maxRecDepth 100000 in
set_option maxHeartbeats 2000000 in
theorem turnFun_any (kind a b c : Int) (aB kB base : Nat) (l : List (Int × Int × Int)) (u : Value) (w : World) (ha : Box w aB 22 u) (hu : Own edgeE 35 base w u l) (hb : base ≤ w.heap.size) (hl : l.length ≤ 1000000) (hk : Box w kB 3 (.int .i64 kind)) :
    Calls Try.prog 31 #[.agg #[.int .i64 a, .int .i64 b, .int .i64 c], .pointer (some ⟨aB, 0, none⟩), .pointer (some ⟨kB, 0, none⟩)] w fun e w' => e = .returned (.bool (leK kind (a, b, c))) ∧
      ∃ u' w9, w' = w9.setCell ⟨aB, 0, none⟩ u' ∧ Own edgeE 35 base w9 u' (l ++ [(a, b, c)]) ∧ w.grownBy w9 u.ownBlock ∧ (u'.ownBlock = u.ownBlock ∨ ∃ k, u'.ownBlock = some k ∧ w.heap.size ≤ k) ∧ Box w9 aB 22 u := by
  have hka : kB ≠ aB := hk.ne ha (by decide)
  have hab := ha.lt
  have hlt := hide hu.lt
  obtain ⟨qk, hqk⟩ : ∃ q, q = leK kind (a, b, c) := ⟨_, rfl⟩
  rw [← hqk]
  replace hqk := hide (show decide (c ≤ kind) = qk by rw [hqk]; rfl)
  go_enter Try.func31, Try.ntmps31
  go_upto_region 1 with fail
  obtain ⟨w1, hw1⟩ : ∃ x, x = w.alloc (.cells #[.int .i64 a, .int .i64 b, .int .i64 c] 35) := ⟨_, rfl⟩
  rw [← hw1]
  have hE1 : Ext w w1 := by rw [hw1]; exact (Below.refl _ _).alloc (Nat.le_refl _) _
  have X3 : BoxN w1 w.heap.size 35 #[.int .i64 a, .int .i64 b, .int .i64 c] := by rw [hw1]; exact BoxN.new _ _ _
  clear hw1
  obtain ⟨p3, hp3⟩ : ∃ q, q = w.heap.size := ⟨_, rfl⟩
  rw [← hp3] at X3 ⊢
  have hap : p3 ≠ aB := by omega
  have hkp := hk.lt
  have k30 := X3.cell 0 (v := .int .i64 a) rfl
  have k31 := X3.cell 1 (v := .int .i64 b) rfl
  have k32 := X3.cell 2 (v := .int .i64 c) rfl
  have s3 := X3.lt
  have hne3 : some p3 ≠ u.ownBlock := fun e => by have := (hlt.out p3 e.symm).2; omega
  have hle3 : p3 ≤ w1.heap.size := by omega
  replace hp3 := hide hp3
  replace ha := ha.ext hE1
  replace hk := hk.ext hE1
  replace hu := hu.ext hE1
  have ca := ha.cell
  have sa := ha.lt
  obtain ⟨A5, c5, rfl, -, -, -⟩ := hu.rd
  obtain ⟨l5, hl5⟩ : ∃ q, q = l.length := ⟨_, rfl⟩
  rw [← hl5] at hu ha ca hne3 hlt
  replace hl5 := hide hl5
  have hon := own_new (base := 0) (e := 35) edgeE w1 (a, b, c) (World.heap w1).size rfl (Nat.zero_le _)
  obtain ⟨A4, c4, hv1, hr4, -, -⟩ := hon.rd
  injection hv1 with hv2 hv3 hv4
  subst hv2
  clear hon hv3 hv4
  replace hr4 := hide hr4
  have Oa := hide (hu.alloc (.cells (edgeE.cs (a, b, c)).toArray 35))
  have haa := hide (ha.alloc (.cells (edgeE.cs (a, b, c)).toArray 35))
  have hka2 := hide (hk.alloc (.cells (edgeE.cs (a, b, c)).toArray 35))
  have X3a := hide (X3.alloc (.cells (edgeE.cs (a, b, c)).toArray 35))
  have hg1 : Hid (w.grownBy (w1.alloc (.cells (edgeE.cs (a, b, c)).toArray 35)) (Value.slice A5 l5 c5).ownBlock) := hide (grown_ext (World.grownBy.refl w _) (hE1.trans (((Below.refl _ w1).alloc (Nat.le_refl _) _).mono hE1.size)))
  have hb1 : base ≤ w1.heap.size := Nat.le_trans hb hE1.size
  replace hne3 := hide hne3
  replace hu := hide hu
  replace ha := hide ha
  replace hk := hide hk
  clear hlt hE1
  go_wp2_with (at_builtin; refine wpList_app tyEdge rfl (.tmp 5) (.tmp 7) rfl rfl Oa.out rfl hr4.out rfl (by have := hl5.out; simp; omega) (by simp; omega) ?_)
  intro v9 w9 hown hg hne hnil
  have ha9 := haa.out.app Oa.out hg (by decide)
  have hk9 := hka2.out.app Oa.out hg (by decide)
  have X9 := X3a.out.grown hg hne3.out
  have hg9 := grown_trans2 hg1.out hg
  have hf : v9.ownBlock = (Value.slice A5 l5 c5).ownBlock ∨ ∃ k, v9.ownBlock = some k ∧ w.heap.size ≤ k := hne.imp id fun h => ⟨_, h, by have h8 := hp3.out; omega⟩
  clear hne hnil hg hg1 haa hka2 X3a Oa hr4 hne3 X3 k30 k31 k32 s3 ca sa
  obtain ⟨A6, c6, rfl, -, -, -⟩ := hown.rd
  obtain ⟨l6, hl6⟩ : ∃ q, q = (l ++ [(a, b, c)]).length := ⟨_, rfl⟩
  rw [← hl6] at hown hf ⊢
  replace hl6 := hide hl6
  replace hown := hide hown
  replace hf := hide hf
  have ca := ha9.cell
  have sa := ha9.lt
  have fa := ha9.free
  have X9b := X9.far (p := ⟨aB, 0, none⟩) hap (.slice A6 l6 c6)
  have hk9b := hk9.far (p := ⟨aB, 0, none⟩) hka (.slice A6 l6 c6)
  replace hg9 := hide hg9
  replace ha9 := hide ha9
  clear X9 hk9
  go_upto_region 2 with fail
  obtain ⟨w2, hw2⟩ : ∃ x, x = w9.setCell ⟨aB, 0, none⟩ (.slice A6 l6 c6) := ⟨_, rfl⟩
  rw [← hw2] at X9b hk9b ⊢
  replace hw2 := hide hw2
  have k32 := X9b.cell 2 (v := .int .i64 c) rfl
  have s3 := X9b.lt
  have ck := hk9b.cell
  have sk := hk9b.lt
  clear ca sa fa
  replace X9b := hide X9b
  replace hk9b := hide hk9b
  go_wp2
  go_ret
  obtain rfl := hl5.out
  exact ⟨by rw [← hqk.out]; rfl, _, w9, hw2.out, hown.out, hg9.out, hf.out, ha9.out⟩
/-! ### The invariant of the two rows -/
def clT (aB kB : Nat) : Array Value := #[.pointer (some ⟨aB, 0, none⟩), .pointer (some ⟨kB, 0, none⟩)]
def IT (w : World) (sB aB fB kB : Nat) (kind : Int) (xs : List (Int × Int × Int)) (s : StE) (W : World) : Prop :=
  ∃ v u, Box W sB 22 v ∧ Own edgeE 35 w.heap.size W v s.2 ∧ Box W aB 22 u ∧ Own edgeE 35 w.heap.size W u (xs.take s.1) ∧ BoxN W fB 54 #[.func (.func 31) #[] (clT aB kB)] ∧ Box W kB 3 (.int .i64 kind) ∧
    (v.ownBlock = none ∨ v.ownBlock ≠ u.ownBlock) ∧ w.grownBy W (some aB)
theorem boxN_ne {W : World} {a b : Nat} {t t' : TypeId} {v : Value} {cs : Array Value} (h : BoxN W a t cs) (h' : Box W b t' v) (hne : t ≠ t') : a ≠ b := by
  intro e
  subst e
  have h2 : W.heap[a]? = _ := h
  have h3 : W.heap[a]? = _ := h'
  rw [h2] at h3
  injection h3 with h3
  injection h3 with _ ht
  exact hne ht
theorem enter_turn (args : Array Value) (w : World) : (callFunc 31 args).run Try.prog w = .ok (.enter 31 args) w := enters_of Try.func31 (by kernel_rfl) rfl args w
theorem holdT {w : World} {sB aB fB kB B : Nat} {kind : Int} {xs : List (Int × Int × Int)} (hl : xs.length ≤ 1000000) (hab : aB ≤ w.heap.size) (hsa : sB ≠ aB) {R : World → Prop} (hR : ∀ A C, R A → KeepsFrom B A C → R C) :
    HoldE 31 (clT aB kB) xs (leK kind) (KpE aB fB) (fun s W => IT w sB aB fB kB kind xs s W ∧ R W) := by
  rintro k pre a b c W0 W1 ⟨⟨v, u, h1, h2, h3, h4, h5, h6, h7, h8⟩, hR0⟩ hE hx
  have hlk : (xs.take k).length ≤ 1000000 := by rw [List.length_take]; omega
  have hsz : w.heap.size ≤ W1.heap.size := Nat.le_trans h8.size hE.size
  have hfa : fB ≠ aB := boxN_ne h5 h3 (by decide)
  have hkA : kB ≠ aB := h6.ne h3 (by decide)
  have hlt4 := h4.lt
  have hlt2 := h2.lt
  have haB := h3.lt
  refine (turnFun_any kind a b c aB kB w.heap.size (xs.take k) u W1 (h3.ext hE) (h4.ext hE) hsz hlk (h6.ext hE)).mono ?_
  rintro e W' ⟨rfl, u', w9, rfl, hO, hg, hf, ha9⟩
  have hF := ((h5.ext hE).app (h4.ext hE) hg (by decide)).far (p := ⟨aB, 0, none⟩) hfa u'
  refine ⟨rfl, ⟨⟨v, u', ((h1.ext hE).app (h4.ext hE) hg (by decide)).far (p := ⟨aB, 0, none⟩) hsa u', ((h2.ext hE).kept hg h7).set ha9 (by decide) u', ha9.set u', ?_, hF, ((h6.ext hE).app (h4.ext hE) hg (by decide)).far (p := ⟨aB, 0, none⟩) hkA u', ?_, grown_set (grown_own (grown_ext h8 hE) (h4.ext hE) (Nat.le_refl _) hg)⟩, ?_⟩, ⟨?_, ?_⟩, ?_⟩
  · show Own _ _ _ _ _ (xs.take (k + 1))
    rw [take_snoc hx]
    exact hO.set ha9 (by decide) u'
  · rcases hf with hf | ⟨j, hj, hjs⟩
    · rw [hf]; exact h7
    · cases hv : v.ownBlock with
      | none => exact .inl rfl
      | some i =>
        refine .inr fun e => ?_
        rw [hj] at e
        injection e with e
        have := (hlt2 i hv).2
        have := hE.size
        omega
  · exact hR _ _ hR0 ((keeps_ext hE).trans (((KeepsOthers.of_grownBy hg (fun j o hj ho => by obtain ⟨cc, hcc⟩ := (h4.ext hE).block j hj; have h9 := hcc.symm.trans ho; injection h9 with h9; subst h9; rfl)).from _).trans ((KeepsOthers.setCell _ _ _).from _)))
  · exact (Own.below ((h4.ext hE).base_le hab) (Below.refl _ W1) hg (Nat.le_trans hab hsz)).setCell (p := ⟨aB, 0, none⟩) (Nat.le_refl _) u'
  · intro o ho
    have h9 : W1.heap[fB]? = _ := h5.ext hE
    rw [h9] at ho
    injection ho with ho
    subst ho
    exact hF
  · intro t ht1 ht2
    exact (Below.heap_setCell w9 ⟨aB, 0, none⟩ u' t (by show t ≠ aB; omega)).trans (hg.block t ht2 (fun e => by have := (hlt4 t e.symm).2; omega))
end Go.Proofs.Ytoihankkldafoaa
