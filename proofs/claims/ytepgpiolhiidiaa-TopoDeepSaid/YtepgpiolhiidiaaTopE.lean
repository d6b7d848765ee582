/- topo.taken$1: what its memory goes through. -/
import Derived.Test.YtepgpiolhiidiaaTopC
import Derived.Test.YtepgpiolhiidiaaTopS
import Derived.Test.YtepgpiolhiidiaaRangeT
import Derived.Test.YtepgpiolhiidiaaGraT
namespace Go.Proofs.Ytepgpiolhiidiaa
open Go.RowKit Go.Shelf

/-- what has been told; the blocks of the iterator's own -/
abbrev StT := List Int × List Nat
def stT (s : StT) (x : Int) : StT := (s.1 ++ [x], s.2)
def encT (x : Int) : Array Value := #[.int .i64 x]
/-- what a round keeps -/
def KpT (n₀ gB : Nat) (s : StT) (W W' : World) : Prop := Below n₀ W W' ∧ (∀ o, W.heap[gB]? = some o → W'.heap[gB]? = some o) ∧ ∀ k ∈ s.2, ∀ o, W.heap[k]? = some o → o.isCells = true → W'.heap[k]? = some o
theorem KpT.trans {n₀ gB : Nat} {s : StT} {A B C : World} (h : KpT n₀ gB s A B) (k : KpT n₀ gB s B C) : KpT n₀ gB s A C := ⟨h.1.trans k.1, fun o ho => k.2.1 o (h.2.1 o ho), fun j hj o ho hc => k.2.2 j hj o (h.2.2 j hj o ho hc) hc⟩
theorem KpT.turn {n₀ gB B : Nat} {s : StT} (hn : n₀ ≤ B) (hg : gB < B) (W : World) (l : Nat) (o o' : Obj) (hl : B ≤ l) (hW : W.heap[l]? = some o) (ho : o.isCells = false) : KpT n₀ gB s W (W.putObj l o') :=
  ⟨⟨rfl, rfl, rfl, by simp, fun k hk => World.putObj_heap_other (by omega)⟩, fun o2 h2 => (World.putObj_heap_other (by omega)).trans h2, fun k hk o2 h2 hc => by
    refine (World.putObj_heap_other (fun e => ?_)).trans h2
    subst e
    rw [hW] at h2
    injection h2 with h2
    subst h2
    rw [ho] at hc
    cases hc⟩
theorem KpT.ext {n₀ gB : Nat} {s : StT} {W W' : World} (h : Ext W W') (hn : n₀ ≤ W.heap.size) : KpT n₀ gB s W W' :=
  ⟨h.mono hn, fun o ho => (h.block gB (Array.getElem?_eq_some_iff.1 ho).1).trans ho, fun k _ o ho _ => (h.block k (Array.getElem?_eq_some_iff.1 ho).1).trans ho⟩
/-- what the caller holds stands whatever the iterator does to its own blocks -/
def HoldT (B0 : Nat) (J : StT → World → Prop) : Prop :=
  ∀ T O O' A B, J (T, O) A → Stir O A B → (∀ k ∈ O, B0 ≤ k ∧ ∀ o, A.heap[k]? = some o → o.isCells = true) → (∀ k ∈ O', k ∈ O ∨ A.heap.size ≤ k) → J (T, O') B
/-- the iterator at work -/
structure TW (W0 : World) (n₀ B0 gB nn : Nat) (A : Option Addr) (m c : Nat) (xs : List (Int × Int × Int)) (sR cs cB cR hB pB : Nat) (J : StT → World → Prop) (T : List Int) (f : Nat → Int) (v : Value) (H : List Int) (wr : World) : Prop where
  mem : TMem B0 cB cR hB pB nn f v H wr
  st : Own intE 3 B0 wr (.slice (some ⟨sR, 0, none⟩) (nn + 1) cs) (starts xs (nn + 1))
  sne : sR ∉ tmO cB cR hB pB v
  gr : BoxN wr gB 24 #[.int .i64 nn, .slice A m c]
  gne : gB < B0
  nle : n₀ ≤ B0
  lo : B0 ≤ cB ∧ B0 ≤ hB ∧ B0 ≤ pB
  bel : Below n₀ W0 wr
  j : J (T, sR :: tmO cB cR hB pB v) wr
theorem oneOf {cB cR hB pB : Nat} {v : Value} {k : Nat} (h : k ∈ tmO cB cR hB pB v) : k = cB ∨ k = cR ∨ k = hB ∨ k = pB ∨ v.ownBlock = some k := by
  unfold tmO at h
  simp only [List.mem_cons, Option.mem_toList] at h
  exact h
section
variable {W0 : World} {n₀ B0 gB nn : Nat} {A : Option Addr} {m c : Nat} {xs : List (Int × Int × Int)} {sR cs cB cR hB pB : Nat} {J : StT → World → Prop} {T : List Int} {f f' : Nat → Int} {v v' : Value} {H H' : List Int} {wr w' : World}
theorem TW.own (h : TW W0 n₀ B0 gB nn A m c xs sR cs cB cR hB pB J T f v H wr) : ∀ k ∈ sR :: tmO cB cR hB pB v, (B0 ≤ k ∧ k < wr.heap.size) ∧ ∀ o, wr.heap[k]? = some o → o.isCells = true := by
  intro k hk
  have one : ∀ {b : Nat} {cs : Array Value} {t : TypeId} {fr : Nat × Nat}, wr.heap[b]? = some (.cells cs t fr) → ∀ o, wr.heap[b]? = some o → o.isCells = true := fun hb o ho => by
    rw [hb] at ho
    injection ho with ho
    subst ho
    rfl
  rcases List.mem_cons.1 hk with rfl | hk
  · obtain ⟨cu, hcu⟩ := h.st.block k rfl
    exact ⟨h.st.lt k rfl, one hcu⟩
  · rcases oneOf hk with rfl | rfl | rfl | rfl | hk
    · exact ⟨⟨h.lo.1, h.mem.cb.lt⟩, one h.mem.cb⟩
    · obtain ⟨cu, hcu⟩ := h.mem.cr.block k rfl
      exact ⟨h.mem.cr.lt k rfl, one hcu⟩
    · exact ⟨⟨h.lo.2.1, h.mem.hb.lt⟩, one h.mem.hb⟩
    · exact ⟨⟨h.lo.2.2, h.mem.pb.lt⟩, one h.mem.pb⟩
    · obtain ⟨cu, hcu⟩ := h.mem.hr.block k hk
      exact ⟨h.mem.hr.lt k hk, one hcu⟩
theorem TW.size (h : TW W0 n₀ B0 gB nn A m c xs sR cs cB cR hB pB J T f v H wr) : B0 ≤ wr.heap.size := by
  have := h.lo.1
  have := h.mem.cb.lt
  omega
/-- a step of the iterator's own -/
theorem TW.step (h : TW W0 n₀ B0 gB nn A m c xs sR cs cB cR hB pB J T f v H wr) (hJ : HoldT B0 J) (hs : Stir (tmO cB cR hB pB v) wr w') (M : TMem B0 cB cR hB pB nn f' v' H' w') (hv : ∀ k, v'.ownBlock = some k → v.ownBlock = some k ∨ wr.heap.size ≤ k) :
    TW W0 n₀ B0 gB nn A m c xs sR cs cB cR hB pB J T f' v' H' w' := by
  have hso := (h.own sR (by simp)).1.2
  refine ⟨M, h.st.stir hs (fun k hk => by injection hk with hk; subst hk; exact h.sne), fun hc => ?_, h.gr.stir hs (fun hc => ?_), h.gne, h.nle, h.lo, h.bel.trans (hs.below (Nat.le_trans h.nle h.size) fun k hk => Nat.le_trans h.nle (h.own k (List.mem_cons_of_mem _ hk)).1.1), ?_⟩
  · rcases oneOf hc with h1 | h1 | h1 | h1 | h1
    · exact h.sne (by rw [h1]; simp [tmO])
    · exact h.sne (by rw [h1]; simp [tmO])
    · exact h.sne (by rw [h1]; simp [tmO])
    · exact h.sne (by rw [h1]; simp [tmO])
    · rcases hv _ h1 with h2 | h2
      · exact h.sne (by simp [tmO, h2])
      · omega
  · have := (h.own gB (List.mem_cons_of_mem _ hc)).1.1
    have := h.gne
    omega
  · refine hJ T _ _ wr w' h.j (hs.mono fun k hk => .inl (List.mem_cons_of_mem _ hk)) (fun k hk => ⟨(h.own k hk).1.1, (h.own k hk).2⟩) fun k hk => ?_
    rcases List.mem_cons.1 hk with rfl | hk
    · exact .inl (by simp)
    · rcases oneOf hk with rfl | rfl | rfl | rfl | h1
      · exact .inl (by simp [tmO])
      · exact .inl (by simp [tmO])
      · exact .inl (by simp [tmO])
      · exact .inl (by simp [tmO])
      · exact (hv _ h1).imp (fun h2 => by simp [tmO, h2]) id
/-- memory of the iterator's added -/
theorem TW.ext (h : TW W0 n₀ B0 gB nn A m c xs sR cs cB cR hB pB J T f v H wr) (hJ : HoldT B0 J) (he : Ext wr w') : TW W0 n₀ B0 gB nn A m c xs sR cs cB cR hB pB J T f v H w' :=
  h.step hJ (Ext.stir he _) (h.mem.ext he) (fun k hk => .inl hk)
/-- as put, take and free leave it -/
theorem TW.heap (h : TW W0 n₀ B0 gB nn A m c xs sR cs cB cR hB pB J T f v H wr) (hJ : HoldT B0 J) (hs : Stir (hB :: v.ownBlock.toList) wr w') (M : TMem B0 cB cR hB pB nn f v' H' w') (hv : ∀ k, v'.ownBlock = some k → v.ownBlock = some k ∨ wr.heap.size ≤ k) :
    TW W0 n₀ B0 gB nn A m c xs sR cs cB cR hB pB J T f v' H' w' :=
  h.step hJ (hs.mono fun k hk => .inl (by unfold tmO; rcases List.mem_cons.1 hk with h1 | h1 <;> simp_all)) M hv
/-- one less, or more, to come -/
theorem TW.come (h : TW W0 n₀ B0 gB nn A m c xs sR cs cB cR hB pB J T f v H wr) (hJ : HoldT B0 J) {i : Nat} (hi : i < nn) (z : Int) (hf : ∀ j, f' j = if j = i then z else f j) :
    TW W0 n₀ B0 gB nn A m c xs sR cs cB cR hB pB J T f' v H (wr.setCell ⟨cR, i, none⟩ (.int .i64 z)) := by
  obtain ⟨g, u, hg0, hgb, hgs, hg3, hg4, hS, cur, hcur⟩ := h.mem.cr.setInt hi z
  injection hg0 with hg1
  injection hg1 with hg2
  subst hg2
  have hr : rowF nn f' = (rowF nn f).set i z := by
    rw [rowF_set]
    exact rowF_congr fun j _ => hf j
  have hne : ∀ {b : Nat} {t : TypeId} {u : Value}, Box wr b t u → t ≠ 3 → b ≠ cR := fun hb ht e => h.mem.cr.ne_box hb (Ne.symm ht) (by rw [e]; rfl)
  have hs : Stir (tmO cB cR hB pB v) wr (wr.setCell ⟨cR, i, none⟩ (.int .i64 z)) := Stir.setCell (p := ⟨cR, i, none⟩) (by simp [tmO]) wr _
  have hs1 : Stir [cR] wr (wr.setCell ⟨cR, i, none⟩ (.int .i64 z)) := Stir.setCell (p := ⟨cR, i, none⟩) (by simp) wr _
  refine h.step hJ hs ⟨h.mem.cb.far (p := ⟨cR, i, none⟩) (hne h.mem.cb (by decide)) _, by rw [hr]; exact hS, h.mem.hb.far (p := ⟨cR, i, none⟩) (hne h.mem.hb (by decide)) _, h.mem.hr.stir hs1 (fun k hk hc => ?_), h.mem.pb.far (p := ⟨cR, i, none⟩) (hne h.mem.pb (by decide)) _, h.mem.ne⟩ (fun k hk => .inl hk)
  obtain rfl : k = cR := by simpa using hc
  exact h.mem.ne hk
/-- a round of the caller's -/
theorem TW.round (h : TW W0 n₀ B0 gB nn A m c xs sR cs cB cR hB pB J T f v H wr) {x : Int} (hj : J (stT (T, sR :: tmO cB cR hB pB v) x) w') (hk : KpT n₀ gB (T, sR :: tmO cB cR hB pB v) wr w') :
    TW W0 n₀ B0 gB nn A m c xs sR cs cB cR hB pB J (T ++ [x]) f v H w' := by
  obtain ⟨k1, k2, k3⟩ := hk
  have one : ∀ {b : Nat} {cs : Array Value} {t : TypeId} {fr : Nat × Nat}, b ∈ sR :: tmO cB cR hB pB v → wr.heap[b]? = some (.cells cs t fr) → w'.heap[b]? = some (.cells cs t fr) := fun hb ho => k3 _ hb _ ho rfl
  have row : ∀ {α : Type} {E : El α} {u : Value} {ys : List α} {e : TypeId}, Own E e B0 wr u ys → (∀ k, u.ownBlock = some k → k ∈ sR :: tmO cB cR hB pB v) → Own E e B0 w' u ys := fun ho hm => by
    refine ⟨ho.1, ?_⟩
    rcases ho.2 with h2 | ⟨g, cap, cur, h1, hb, hg, h3⟩
    · exact .inl h2
    · exact .inr ⟨g, cap, cur, h1, hb, one (hm g (by rw [h1]; rfl)) hg, h3⟩
  exact ⟨⟨one (by simp [tmO]) h.mem.cb, row h.mem.cr (fun k hk => by injection hk with hk; subst hk; simp [tmO]), one (by simp [tmO]) h.mem.hb, row h.mem.hr (fun k hk => by simp [tmO, hk]), one (by simp [tmO]) h.mem.pb, h.mem.ne⟩,
    row h.st (fun k hk => by injection hk with hk; subst hk; simp), h.sne, k2 _ h.gr, h.gne, h.nle, h.lo, h.bel.trans k1, hj⟩
end
end Go.Proofs.Ytepgpiolhiidiaa
