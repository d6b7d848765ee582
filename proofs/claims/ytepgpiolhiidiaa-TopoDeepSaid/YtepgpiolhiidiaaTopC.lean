/- topo.taken: the memory of its own; a node put into the heap if nothing is to come ahead of it. -/
import Derived.Test.YtepgpiolhiidiaaTopB
namespace Go.Proofs.Ytepgpiolhiidiaa
open Go.RowKit Go.Shelf
attribute [local go_sem] Oper.semAt_some

/-- the iterator's own memory: how many are to come (in a box), the heap (in a box), the function put (in a box) -/
structure TMem (base cB cR hB pB nn : Nat) (f : Nat → Int) (v : Value) (H : List Int) (w : World) : Prop where
  cb : Box w cB 28 (.slice (some ⟨cR, 0, none⟩) nn nn)
  cr : Own intE 3 base w (.slice (some ⟨cR, 0, none⟩) nn nn) (rowF nn f)
  hb : Box w hB 84 v
  hr : Own intE 3 base w v H
  pb : Box w pB 85 (.func (.func 55) #[.pointer (some ⟨hB, 0, none⟩)] #[])
  ne : v.ownBlock ≠ some cR
/-- the blocks of it -/
def tmO (cB cR hB pB : Nat) (v : Value) : List Nat := cB :: cR :: hB :: pB :: v.ownBlock.toList
theorem TMem.stir {base cB cR hB pB nn : Nat} {f : Nat → Int} {v : Value} {H : List Int} {w w' : World} {O : List Nat} (M : TMem base cB cR hB pB nn f v H w) (h : Stir O w w') (hO : ∀ k ∈ tmO cB cR hB pB v, k ∉ O) : TMem base cB cR hB pB nn f v H w' where
  cb := M.cb.stir h (hO _ (by simp [tmO]))
  cr := M.cr.stir h (fun k hk => by injection hk with hk; subst hk; exact hO _ (by simp [tmO]))
  hb := M.hb.stir h (hO _ (by simp [tmO]))
  hr := M.hr.stir h (fun k hk => hO _ (by simp [tmO, hk]))
  pb := M.pb.stir h (hO _ (by simp [tmO]))
  ne := M.ne
theorem TMem.ext {base cB cR hB pB nn : Nat} {f : Nat → Int} {v : Value} {H : List Int} {w w' : World} (M : TMem base cB cR hB pB nn f v H w) (h : Ext w w') : TMem base cB cR hB pB nn f v H w' := M.stir (Ext.stir h []) (fun _ _ h => by cases h)
/-- the heap as a call leaves it -/
theorem TMem.heap {base cB cR hB pB nn : Nat} {f : Nat → Int} {v v' : Value} {H H' : List Int} {w w' : World} (M : TMem base cB cR hB pB nn f v H w) (h : Stir (hB :: v.ownBlock.toList) w w') (hb : Box w' hB 84 v') (hr : Own intE 3 base w' v' H')
    (hk : ∀ k, v'.ownBlock = some k → v.ownBlock = some k ∨ w.heap.size ≤ k) : TMem base cB cR hB pB nn f v' H' w' := by
  have hcR : cR < w.heap.size := (M.cr.lt cR rfl).2
  have d1 : cB ∉ hB :: v.ownBlock.toList := by
    intro hc
    rcases List.mem_cons.1 hc with h1 | h1
    · exact M.cb.ne M.hb (by decide) h1
    · exact M.hr.ne_box M.cb (by decide) (by simpa using h1)
  have d2 : cR ∉ hB :: v.ownBlock.toList := by
    intro hc
    rcases List.mem_cons.1 hc with h1 | h1
    · exact M.cr.ne_box M.hb (by decide) (by rw [← h1]; rfl)
    · exact M.ne (by simpa using h1)
  have d3 : pB ∉ hB :: v.ownBlock.toList := by
    intro hc
    rcases List.mem_cons.1 hc with h1 | h1
    · exact M.pb.ne M.hb (by decide) h1
    · exact M.hr.ne_box M.pb (by decide) (by simpa using h1)
  refine ⟨M.cb.stir h d1, M.cr.stir h (fun k hk' => by injection hk' with hk'; subst hk'; exact d2), hb, hr, M.pb.stir h d3, fun hc => ?_⟩
  rcases hk cR hc with h1 | h1
  · exact M.ne h1
  · omega
theorem enter_put (args : Array Value) (w : World) : (callFunc 55 args).run Try.prog w = .ok (.enter 55 args) w := by
  exact enters_of Try.func55 (by kernel_rfl) rfl args w
set_option maxRecDepth 100000 in
set_option maxHeartbeats 4000000 in
theorem free_any (base cB cR hB pB nn : Nat) (f : Nat → Int) (v : Value) (H : List Int) (w : World) (M : TMem base cB cR hB pB nn f v H w) (u : Nat) (hu : u < nn) (hl : H.length ≤ 1000000) (hh : Heap H) (hbase : base ≤ w.heap.size) :
    Calls Try.prog 57 #[.int .i64 u, .pointer (some ⟨cB, 0, none⟩), .pointer (some ⟨pB, 0, none⟩)] w fun e w' => (∃ x, e = .returned x) ∧ ∃ v' H', TMem base cB cR hB pB nn f v' H' w' ∧ Heap H' ∧ (f u = 0 → Same H' (H ++ [(u : Int)])) ∧ (f u ≠ 0 → H' = H) ∧
      Stir (hB :: v.ownBlock.toList) w w' ∧ (∀ k, v'.ownBlock = some k → v.ownBlock = some k ∨ w.heap.size ≤ k) := by
  have c1 := M.cb.cell
  have s1 := M.cb.lt
  have c2 := M.pb.cell
  have s2 := M.pb.lt
  obtain ⟨g, hg, hgs, c3⟩ := M.cr.at1 hu
  injection hg with hg
  injection hg with hg
  subst hg
  obtain ⟨z, hz⟩ : ∃ z, z = f u := ⟨_, rfl⟩
  rw [show gi (rowF nn f) u = f u from gi_some (rowF_get hu), ← hz] at c3
  have hu0 : (0 : Int) ≤ (u : Int) := by omega
  have hun : (u : Int) < (nn : Int) := by omega
  replace hz := hide hz
  have hM := hide M
  have hP := hide (put_any hB v H u base w M.hb M.hr hbase hl hh)
  clear M
  go_enter Try.func57, Try.ntmps57
  by_cases hz0 : z = 0
  · have henter := enter_put
    go_wp2_with fail
    refine hP.out.mono ?_
    rintro e w1 ⟨⟨x, rfl⟩, v', H', h1, h2, h3, h4, h5, h6⟩
    replace h1 := hide h1
    replace h2 := hide h2
    replace h3 := hide h3
    replace h4 := hide h4
    replace h5 := hide h5
    replace h6 := hide h6
    clear hP henter c1 c2 c3 s1 s2
    go_wp2
    go_end0
    exact ⟨⟨_, rfl⟩, v', H', hM.out.heap h5.out h1.out h2.out h6.out, h3.out, fun _ => h4.out, fun h => absurd (by rw [← hz.out]; exact hz0) h, h5.out, h6.out⟩
  · go_wp2
    go_end0
    exact ⟨⟨_, rfl⟩, v, H, hM.out, hh, fun h => absurd (by rw [hz.out]; exact h) hz0, fun _ => rfl, Stir.refl _ _, fun k hk => .inl hk⟩
end Go.Proofs.Ytepgpiolhiidiaa
