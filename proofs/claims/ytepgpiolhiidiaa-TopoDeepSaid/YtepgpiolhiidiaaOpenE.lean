/- Arguments opened: rows of edges, graphs. -/
import Derived.Test.YtepgpiolhiidiaaOpenG
import Derived.Test.YtepgpiolhiidiaaGraA
namespace Go.Proofs.Ytepgpiolhiidiaa
open Go.RowKit Go.ChangeShapes Go.WideShapes Go.ChangeAt Go.Deep

theorem fields3 {o : Option TypeDesc} {t : TypeId} (h : o.bind (fun d => match d with | .struct fs => some (fs.toList.map fun f => (f.type, f.offset)) | _ => none) = some [(t, 0), (t, 1), (t, 2)]) :
    ∃ fs, o = some (.struct fs) ∧ ∃ f0 f1 f2, fs[0]? = some f0 ∧ fs[1]? = some f1 ∧ fs[2]? = some f2 ∧ (f0.type = t ∧ f1.type = t ∧ f2.type = t ∧ f0.offset = 0 ∧ f1.offset = 1 ∧ f2.offset = 2) := by
  cases o with
  | none => simp at h
  | some d =>
    cases d with
    | struct fs =>
      simp only [Option.bind_some, Option.some.injEq] at h
      obtain ⟨l⟩ := fs
      have hl : l.length = 3 := by simpa using congrArg List.length h
      match l, hl, h with
      | [f0, f1, f2], _, h =>
        simp at h
        exact ⟨_, rfl, f0, f1, f2, rfl, rfl, rfl, h.1.1, h.2.1.1, h.2.2.1, h.1.2, h.2.1.2, h.2.2.2⟩
    | _ => simp at h
theorem fields2 {o : Option TypeDesc} {t u : TypeId} (h : o.bind (fun d => match d with | .struct fs => some (fs.toList.map fun f => (f.type, f.offset)) | _ => none) = some [(t, 0), (u, 1)]) :
    ∃ fs, o = some (.struct fs) ∧ ∃ f0 f1, fs[0]? = some f0 ∧ fs[1]? = some f1 ∧ (f0.type = t ∧ f1.type = u ∧ f0.offset = 0 ∧ f1.offset = 1) := by
  cases o with
  | none => simp at h
  | some d =>
    cases d with
    | struct fs =>
      simp only [Option.bind_some, Option.some.injEq] at h
      obtain ⟨l⟩ := fs
      have hl : l.length = 2 := by simpa using congrArg List.length h
      match l, hl, h with
      | [f0, f1], _, h =>
        simp at h
        exact ⟨_, rfl, f0, f1, rfl, rfl, h.1.1, h.2.1, h.1.2, h.2.2⟩
    | _ => simp at h
section
variable {H : Type} {enc : TypeId × Value → H} {W : World} {base : Nat} {v : Value} {d : DataW H} {ps : List MemPlace}
set_option maxRecDepth 100000 in
theorem open_edgeRow0 {fuel : Nat} {c0 : Value} {x : DataW H × List MemPlace} (hf : DataW.trod enc Try.prog W 0 (fun _ => true) true fuel 22 [c0] = some x) :
    ∃ A n c xs, c0 = .slice A n c ∧ n = xs.length ∧ (n ≤ c ∧ c ≤ maxLen) ∧ Rd edgeE W.heap.size W A xs ∧ ∀ x ∈ xs, (Lit.int .i64 x.1).wf = true ∧ (Lit.int .i64 x.2.1).wf = true ∧ (Lit.int .i64 x.2.2).wf = true := by
  have hC : Try.prog.cellsOf 50 = 3 := by kernel_rfl
  have hq : (Try.prog.underlying 50).bind (fun d => match d with | .struct fs => some (fs.toList.map fun f => (f.type, f.offset)) | _ => none) = some [(3, 0), (3, 1), (3, 2)] := by kernel_rfl
  obtain ⟨fs, hfs, f0, f1, f2, hf0, hf1, hf2, t0, t1, t2, o0, o1, o2⟩ := fields3 hq
  have hi1 : Try.prog.cellsOf 3 = 1 := by kernel_rfl
  rcases open_slice (show Try.prog.underlying 22 = some (.slice 50) by kernel_rfl) hf with ⟨hcs, _⟩ | ⟨a, l, k, m, fu, D, Pl, hcs, _, hl, hm, hmm, _, hi⟩
  · simp at hcs
    subst hcs
    exact ⟨none, 0, 0, [], rfl, rfl, ⟨Nat.le_refl _, Nat.zero_le _⟩, .inl rfl, by simp⟩
  · simp at hcs
    subst hcs
    simp at hmm
    subst hmm
    obtain ⟨xs, hxl, hxs⟩ := list_of (fun i (x : Int × Int × Int) => ((W.cell? (a.add (i * 3)) = some (.int .i64 x.1) ∧ (Lit.int .i64 x.1).wf = true) ∧ (W.cell? (a.add (i * 3 + 1)) = some (.int .i64 x.2.1) ∧ (Lit.int .i64 x.2.1).wf = true) ∧ (W.cell? (a.add (i * 3 + 2)) = some (.int .i64 x.2.2) ∧ (Lit.int .i64 x.2.2).wf = true))) l (fun i hin => by
      obtain ⟨cs', h1, h2⟩ := hi i (by omega)
      rw [hC] at h1
      obtain ⟨ys, n', _, _, hlen, hyl, hfld⟩ := DataW.trod_struct hfs h2
      obtain ⟨_, hcl, hat⟩ := World.cells?_some h1
      match cs', hcl with
      | [u0, u1, u2], _ =>
        have g0 := hfld 0 f0 hf0
        have g1 := hfld 1 f1 hf1
        have g2 := hfld 2 f2 hf2
        rw [t0, o0, hi1] at g0
        rw [t1, o1, hi1] at g1
        rw [t2, o2, hi1] at g2
        have hs0 : ys[0]? = some (ys[0]'(by rw [hyl]; exact (Array.getElem?_eq_some_iff.1 hf0).1)) := List.getElem?_eq_getElem _
        have hs1 : ys[1]? = some (ys[1]'(by rw [hyl]; exact (Array.getElem?_eq_some_iff.1 hf1).1)) := List.getElem?_eq_getElem _
        have hs2 : ys[2]? = some (ys[2]'(by rw [hyl]; exact (Array.getElem?_eq_some_iff.1 hf2).1)) := List.getElem?_eq_getElem _
        rw [hs0] at g0
        rw [hs1] at g1
        rw [hs2] at g2
        obtain ⟨z0, e0, _, w0⟩ := DataW.trod_int (show Try.prog.underlying 3 = some (.int .i64) by kernel_rfl) g0
        obtain ⟨z1, e1, _, w1⟩ := DataW.trod_int (show Try.prog.underlying 3 = some (.int .i64) by kernel_rfl) g1
        obtain ⟨z2, e2, _, w2⟩ := DataW.trod_int (show Try.prog.underlying 3 = some (.int .i64) by kernel_rfl) g2
        simp at e0 e1 e2
        subst e0 e1 e2
        refine ⟨(z0, z1, z2), ⟨?_, w0⟩, ⟨?_, w1⟩, ?_, w2⟩
        · have := hat 0 (by omega)
          simpa [Addr.add] using this
        · have := hat 1 (by omega)
          rw [Go.Deep.add_add] at this
          simpa using this
        · have := hat 2 (by omega)
          rw [Go.Deep.add_add] at this
          simpa using this)
    refine ⟨some a, l, _, xs, rfl, hxl.symm, ⟨hl, hm⟩, rd_of_cells (n := l) _ hxl fun i y hy j u hu => ?_, fun y hy => ?_⟩
    · obtain ⟨h1, h2, h3⟩ := hxs i y hy
      match j, hu with
      | 0, hu => simp [edgeE] at hu; subst hu; simpa [edgeE] using h1.1
      | 1, hu => simp [edgeE] at hu; subst hu; simpa [edgeE] using h2.1
      | 2, hu => simp [edgeE] at hu; subst hu; simpa [edgeE] using h3.1
    · obtain ⟨i, hi'⟩ := List.getElem?_of_mem hy
      exact ⟨(hxs i y hi').1.2, (hxs i y hi').2.1.2, (hxs i y hi').2.2.2⟩
theorem open_edgeRow (hval : Value.okWide Try.prog W .any base 22 v) (h : DataW.Trod enc Try.prog W 0 (fun _ => true) true 22 v d ps) :
    ∃ A n c xs, v = .slice A n c ∧ n = xs.length ∧ (n ≤ c ∧ c ≤ maxLen) ∧ Rd edgeE W.heap.size W A xs ∧ ∀ x ∈ xs, (Lit.int .i64 x.1).wf = true ∧ (Lit.int .i64 x.2.1).wf = true ∧ (Lit.int .i64 x.2.2).wf = true := by
  obtain ⟨A, n, c, rfl⟩ := okWide_slice (show Try.prog.underlying 22 = some (.slice 50) by kernel_rfl) hval
  obtain ⟨fuel, hf⟩ := h
  obtain ⟨A', n', c', xs, e, r⟩ := open_edgeRow0 hf
  exact ⟨A', n', c', xs, e, r⟩
theorem open_graph0 {fuel : Nat} {u0 u1 : Value} {x : DataW H × List MemPlace} (hf : DataW.trod enc Try.prog W 0 (fun _ => true) true fuel 24 [u0, u1] = some x) :
    ∃ g A n c xs, u0 = .int .i64 g ∧ u1 = .slice A n c ∧ n = xs.length ∧ (n ≤ c ∧ c ≤ maxLen) ∧ Rd edgeE W.heap.size W A xs ∧ (Lit.int .i64 g).wf = true := by
  have hq : (Try.prog.underlying 24).bind (fun d => match d with | .struct fs => some (fs.toList.map fun f => (f.type, f.offset)) | _ => none) = some [(3, 0), (22, 1)] := by kernel_rfl
  obtain ⟨fs, hfs, f0, f1, hf0, hf1, t0, t1, o0, o1⟩ := fields2 hq
  have hi1 : Try.prog.cellsOf 3 = 1 := by kernel_rfl
  have hi2 : Try.prog.cellsOf 22 = 1 := by kernel_rfl
  obtain ⟨ys, n', _, _, hlen, hyl, hfld⟩ := DataW.trod_struct hfs hf
  have g0 := hfld 0 f0 hf0
  have g1 := hfld 1 f1 hf1
  rw [t0, o0, hi1] at g0
  rw [t1, o1, hi2] at g1
  have hs0 : ys[0]? = some (ys[0]'(by rw [hyl]; exact (Array.getElem?_eq_some_iff.1 hf0).1)) := List.getElem?_eq_getElem _
  have hs1 : ys[1]? = some (ys[1]'(by rw [hyl]; exact (Array.getElem?_eq_some_iff.1 hf1).1)) := List.getElem?_eq_getElem _
  rw [hs0] at g0
  rw [hs1] at g1
  obtain ⟨z0, e0, _, w0⟩ := DataW.trod_int (show Try.prog.underlying 3 = some (.int .i64) by kernel_rfl) g0
  simp at e0
  subst e0
  obtain ⟨A, n, c, xs, e, r1, r2, r3, -⟩ := open_edgeRow0 (by simpa using g1)
  exact ⟨z0, A, n, c, xs, rfl, e, r1, r2, r3, w0⟩
theorem open_graph (hval : Value.okWide Try.prog W .any base 24 v) (h : DataW.Trod enc Try.prog W 0 (fun _ => true) true 24 v d ps) :
    ∃ g A n c xs, v = .agg #[.int .i64 g, .slice A n c] ∧ n = xs.length ∧ (n ≤ c ∧ c ≤ maxLen) ∧ Rd edgeE W.heap.size W A xs ∧ (Lit.int .i64 g).wf = true := by
  obtain ⟨cs, rfl, hsz⟩ := okWide_struct Try.underlying24 hval
  obtain ⟨l⟩ := cs
  have h1 : Try.prog.cellsOf 24 = 2 := by kernel_rfl
  rw [h1] at hsz
  obtain ⟨u0, u1, rfl⟩ : ∃ u0 u1, l = [u0, u1] := by
    match l, hsz with
    | [u0, u1], _ => exact ⟨u0, u1, rfl⟩
  obtain ⟨fuel, hf⟩ := h
  obtain ⟨g, A, n, c, xs, rfl, rfl, r1, r2, r3, r4⟩ := open_graph0 (u0 := u0) (u1 := u1) (by simpa [Value.cells] using hf)
  exact ⟨g, A, n, c, xs, rfl, r1, r2, r3, r4⟩
end
end Go.Proofs.Ytepgpiolhiidiaa
